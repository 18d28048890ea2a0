/- More operations: strings, bytes, bits, rows of zeros, copies, maps' length and clearing. No condition. -/
import Derived.Test.YtfgbplbohekghaaDoorL9
import Derived.Laws.BytesString
set_option linter.unusedVariables false
set_option linter.unusedSimpArgs false
namespace Go.Wl
open Go.RowKit
section
variable {P : Program} {n : Nat} {s : Sl} {ds : List Deferred} {w : World} {l : List SOp} {X : Cont} {pan : PCont} {d0 : Option Nat} {g : Option (Nat × Bool)}

/-- nil checks: of what is not nil. -/
theorem o_nilCk {x : Operand} {a : Addr} (hx : Wl.val s x = some (.pointer (some a))) : Op1 P n s ds w (.nilCheck x) (.pointer (some a)) :=
  (fun q hq oo ho => by unfold execOp; rw [ho]; simp only [hq.val hx]; rfl)
theorem WL.nilCk {x : Operand} {a : Addr} (hg : GOk s g) (hx : Wl.val s x = some (.pointer (some a))) (h : WL P n l X pan (push d0 (.pointer (some a)) s) ds w) : WL P n (⟨d0, .nilCheck x, g⟩ :: l) X pan s ds w := WL.val hg (o_nilCk hx) h
theorem o_nilCkI {x : Operand} {t : TypeId} {v : Value} (hx : Wl.val s x = some (.iface t v)) : Op1 P n s ds w (.nilCheck x) (.iface t v) :=
  (fun q hq oo ho => by unfold execOp; rw [ho]; simp only [hq.val hx]; rfl)
theorem WL.nilCkI {x : Operand} {t : TypeId} {v : Value} (hg : GOk s g) (hx : Wl.val s x = some (.iface t v)) (h : WL P n l X pan (push d0 (.iface t v) s) ds w) : WL P n (⟨d0, .nilCheck x, g⟩ :: l) X pan s ds w := WL.val hg (o_nilCkI hx) h

/-- s[i], s a string. -/
theorem o_idxStr {t : TypeId} {x y : Operand} {b : ByteArray} {k : IntKind} {i : Int} (hu : P.underlying t = some .string) (hx : Wl.val s x = some (.string b)) (hy : Wl.val s y = some (.int k i)) (h0 : 0 ≤ i) (h1 : i.toNat < b.size) :
    Op1 P n s ds w (.index t x y) (.int .u8 ((b[i.toNat]'h1).toNat : Int)) :=
  (fun q hq oo ho => by
    unfold execOp; rw [ho]; simp only [hq.val hx, hq.val hy, Instr.index, asIntOf, Sem.run_bind, Sem.run_pure, Result.andThen_ok, run_underlying hu]
    rw [if_pos h0]
    have e1 : b[i.toNat]? = some (b[i.toNat]'h1) := by simp [h1]
    rw [e1]; rfl)
theorem WL.idxStr {t : TypeId} {x y : Operand} {b : ByteArray} {k : IntKind} {i : Int} (hg : GOk s g) (hu : P.underlying t = some .string) (hx : Wl.val s x = some (.string b)) (hy : Wl.val s y = some (.int k i)) (h0 : 0 ≤ i) (h1 : i.toNat < b.size)
    (h : WL P n l X pan (push d0 (.int .u8 ((b[i.toNat]'h1).toNat : Int)) s) ds w) : WL P n (⟨d0, .index t x y, g⟩ :: l) X pan s ds w := WL.val hg (o_idxStr hu hx hy h0 h1) h

/-- a + b, of strings. -/
theorem o_cat {t t' : TypeId} {x y : Operand} {a b : ByteArray} (hx : Wl.val s x = some (.string a)) (hy : Wl.val s y = some (.string b)) (hs : a.size + b.size ≤ 9223372036854775807) :
    Op1 P n s ds w (.binOp .add t x y t') (.string (a ++ b)) :=
  (fun q hq oo ho => by
    unfold execOp; rw [ho]; simp only [hq.val hx, hq.val hy]
    have h0 : IntKind.i64.max = 9223372036854775807 := by decide
    have h1 : ¬ (((a.size + b.size : Nat) : Int) > IntKind.i64.max) := by rw [h0]; omega
    have h2 : (Op.stringOp .add a b).run P w = .ok (.string (a ++ b)) w := by
      simp only [Op.stringOp]
      rw [if_neg h1]; rfl
    have h3 : (binOp .add t (.string a) (.string b)).run P w = .ok (.string (a ++ b)) w := h2
    have h4 : (eqGuard .add t x y (.string a) (.string b)).run P w = .ok () w := rfl
    simp only [Sem.run_bind, h4, h3, Result.andThen_ok]
    rfl)
theorem WL.cat {t t' : TypeId} {x y : Operand} {a b : ByteArray} (hg : GOk s g) (hx : Wl.val s x = some (.string a)) (hy : Wl.val s y = some (.string b)) (hs : a.size + b.size ≤ 9223372036854775807)
    (h : WL P n l X pan (push d0 (.string (a ++ b)) s) ds w) : WL P n (⟨d0, .binOp .add t x y t', g⟩ :: l) X pan s ds w := WL.val hg (o_cat hx hy hs) h

/-- & | ^ &^ as the machine has them. -/
def bitV (op : BinOp) (k : IntKind) (a b : Int) : Int := match op with
  | .and => k.wrap (BitVec.ofInt k.bits a &&& BitVec.ofInt k.bits b).toNat
  | .or => k.wrap (BitVec.ofInt k.bits a ||| BitVec.ofInt k.bits b).toNat
  | .xor => k.wrap (BitVec.ofInt k.bits a ^^^ BitVec.ofInt k.bits b).toNat
  | _ => k.wrap (BitVec.ofInt k.bits a &&& ~~~BitVec.ofInt k.bits b).toNat
def isBits : BinOp → Bool
  | .and | .or | .xor | .andNot => true
  | _ => false
theorem o_bits {op : BinOp} (hop : isBits op = true) {t t' : TypeId} {x y : Operand} {k : IntKind} {a b : Int} (hx : Wl.val s x = some (.int k a)) (hy : Wl.val s y = some (.int k b)) :
    Op1 P n s ds w (.binOp op t x y t') (.int k (bitV op k a b)) :=
  (fun q hq oo ho => by
    unfold execOp; rw [ho]; simp only [hq.val hx, hq.val hy]
    cases op <;> first | (cases hop; done) | (simp [eqGuard, binOp, Op.intBits, Sem.run_bind, bitV]))
theorem WL.bits {op : BinOp} (hop : isBits op = true) {t t' : TypeId} {x y : Operand} {k : IntKind} {a b : Int} (hg : GOk s g) (hx : Wl.val s x = some (.int k a)) (hy : Wl.val s y = some (.int k b))
    (h : WL P n l X pan (push d0 (.int k (bitV op k a b)) s) ds w) : WL P n (⟨d0, .binOp op t x y t', g⟩ :: l) X pan s ds w := WL.val hg (o_bits hop hx hy) h
theorem o_shlI {t t' : TypeId} {x y : Operand} {k k' : IntKind} {a b : Int} (hx : Wl.val s x = some (.int k a)) (hy : Wl.val s y = some (.int k' b)) (hb : 0 ≤ b) :
    Op1 P n s ds w (.binOp .shl t x y t') (.int k (k.wrap (a * 2 ^ (min b.toNat k.bits)))) :=
  (fun q hq oo ho => by unfold execOp; rw [ho]; simp only [hq.val hx, hq.val hy]; simp [eqGuard, binOp, Op.shift, Sem.run_bind, show ¬ b < 0 by omega])
theorem WL.shlI {t t' : TypeId} {x y : Operand} {k k' : IntKind} {a b : Int} (hg : GOk s g) (hx : Wl.val s x = some (.int k a)) (hy : Wl.val s y = some (.int k' b)) (hb : 0 ≤ b)
    (h : WL P n l X pan (push d0 (.int k (k.wrap (a * 2 ^ (min b.toNat k.bits)))) s) ds w) : WL P n (⟨d0, .binOp .shl t x y t', g⟩ :: l) X pan s ds w := WL.val hg (o_shlI hx hy hb) h

/-- s[i:j], s a string. -/
theorem run_cutStr {t : TypeId} (hu : P.underlying t = some .string) (b : ByteArray) (lo hi : Option Value) (i j : Nat)
    (hl : (lo = none ∧ i = 0) ∨ ∃ ik q, lo = some (.int ik q) ∧ 0 ≤ q ∧ q.toNat = i) (hh : (hi = none ∧ j = b.size) ∨ ∃ ik q, hi = some (.int ik q) ∧ 0 ≤ q ∧ q.toNat = j) (hij : i ≤ j) (hj : j ≤ b.size) :
    (Instr.sliceAt t (.string b) lo hi none).run P w = .ok (.string (b.extract i j)) w := by
  rw [run_sliceAt_string (P := P) w t _ _ _ _ hu]
  have hb : ∀ (v : Value) (y : Nat) (c : BoundsCode) (k : IntKind) (q : Int), v = .int k q → 0 ≤ q → q.toNat ≤ y → (Instr.sliceBound v y c).run P w = .ok q.toNat w := by
    intro v y c k q e h0 h1
    subst e
    simp only [Instr.sliceBound, asIntOf, Sem.run_bind, Sem.run_pure, Result.andThen_ok]
    rw [if_pos ⟨h0, by omega⟩]
    rfl
  simp only [Instr.slice, Sem.run_bind, run_underlying hu, Result.andThen_ok, Instr.sliceBounds]
  rcases hl with ⟨rfl, rfl⟩ | ⟨ik, q, rfl, hq0, rfl⟩ <;> rcases hh with ⟨rfl, rfl⟩ | ⟨jk, p, rfl, hp0, rfl⟩
  · rfl
  · simp [Sem.run_bind, hb _ _ _ _ _ rfl hp0 hj, sliced]
  · simp [Sem.run_bind, hb _ _ _ _ _ rfl hq0 hij, sliced]
  · simp [Sem.run_bind, hb _ _ _ _ _ rfl hp0 hj, hb _ _ _ _ _ rfl hq0 hij, sliced]
theorem o_cutStr {t : TypeId} {x : Operand} {lo hi : Option Operand} {vl vh : Option Value} {b : ByteArray} (i j : Nat) (hu : P.underlying t = some .string) (hx : Wl.val s x = some (.string b))
    (hlo : ovals s lo = some vl) (hhi : ovals s hi = some vh) (hl : (vl = none ∧ i = 0) ∨ ∃ ik q, vl = some (.int ik q) ∧ 0 ≤ q ∧ q.toNat = i) (hh : (vh = none ∧ j = b.size) ∨ ∃ ik q, vh = some (.int ik q) ∧ 0 ≤ q ∧ q.toNat = j) (hij : i ≤ j) (hj : j ≤ b.size) :
    Op1 P n s ds w (.slice t x lo hi none) (.string (b.extract i j)) :=
  (fun q hq oo ho => by
    unfold execOp; rw [ho]
    simp only [hq.val hx, hq.ovals hlo, hq.ovals hhi, Option.map_none, Sem.run_bind, run_cutStr hu b vl vh i j hl hh hij hj]
    rfl)
theorem WL.cutStr {t : TypeId} {x : Operand} {lo hi : Option Operand} {vl vh : Option Value} {b : ByteArray} (i j : Nat) (hg : GOk s g) (hu : P.underlying t = some .string) (hx : Wl.val s x = some (.string b))
    (hlo : ovals s lo = some vl) (hhi : ovals s hi = some vh) (hl : (vl = none ∧ i = 0) ∨ ∃ ik q, vl = some (.int ik q) ∧ 0 ≤ q ∧ q.toNat = i) (hh : (vh = none ∧ j = b.size) ∨ ∃ ik q, vh = some (.int ik q) ∧ 0 ≤ q ∧ q.toNat = j) (hij : i ≤ j) (hj : j ≤ b.size)
    (h : WL P n l X pan (push d0 (.string (b.extract i j)) s) ds w) : WL P n (⟨d0, .slice t x lo hi none, g⟩ :: l) X pan s ds w := WL.val hg (o_cutStr i j hu hx hlo hhi hl hh hij hj) h

/-- len(m) and clear(m), m a map. -/
theorem o_lenM {t K E : TypeId} {κ α : Type} {k : KeyK P K κ} {r : VRep α} {ok : Nat → Prop} {b : Nat} {m : List (κ × α)} {x : Operand} (hu : P.underlying t = some (.map K E)) (hx : Wl.val s x = some (.map (some b))) (hm : MapAt k r ok w b m) :
    Op1 P n s ds w (.call { callee := .builtin .len, args := #[x], argTypes := #[t] }) (.int .i64 m.length) :=
  (fun q hq oo ho => by
    obtain ⟨es, clock, hb, he, _⟩ := hm
    have hget : (getObj b).run P w = .ok (.map es clock) w := by simp [getObj, Sem.run, hb]
    have hl : es.size = m.length := by rw [← he.length]; simp
    unfold execOp; rw [ho]; simp [resolve, invoke, builtin, hq.val hx, Builtin.len_, Sem.run_bind, run_underlying hu, goInt, hget, hl])
theorem WL.lenM {t K E : TypeId} {κ α : Type} {k : KeyK P K κ} {r : VRep α} {ok : Nat → Prop} {b : Nat} {m : List (κ × α)} {x : Operand} (hg : GOk s g) (hu : P.underlying t = some (.map K E)) (hx : Wl.val s x = some (.map (some b))) (hm : MapAt k r ok w b m)
    (h : WL P n l X pan (push d0 (.int .i64 m.length) s) ds w) : WL P n (⟨d0, .call { callee := .builtin .len, args := #[x], argTypes := #[t] }, g⟩ :: l) X pan s ds w := WL.val hg (o_lenM hu hx hm) h
theorem WL.clearM {t K E : TypeId} {κ α : Type} {k : KeyK P K κ} {r : VRep α} {ok : Nat → Prop} {b : Nat} {m : List (κ × α)} {x : Operand} (hg : GOk s g) (hu : P.underlying t = some (.map K E)) (hx : Wl.val s x = some (.map (some b))) (hm : MapAt k r ok w b m)
    (h : ∀ w1, w.grownBy w1 (some b) → w1.heap.size = w.heap.size → MapAt k r ok w1 b [] → WL P n l X pan (push d0 (.tuple #[]) s) ds w1) : WL P n (⟨d0, .call { callee := .builtin .clear, args := #[x], argTypes := #[t] }, g⟩ :: l) X pan s ds w := by
  obtain ⟨es, clock, hb, he, _⟩ := hm
  have hget : (getObj b).run P w = .ok (.map es clock) w := by simp [getObj, Sem.run, hb]
  have hset : ∀ o', (setObj b o').run P w = .ok () { w with heap := w.heap.setIfInBounds b o' } := fun o' => by simp [setObj, Sem.run, hb]
  obtain ⟨g1, g2⟩ := setBlock_gb (o' := .map #[] clock) hb
  exact WL.val hg (w' := { w with heap := w.heap.setIfInBounds b (.map #[] clock) }) (fun q hq oo ho => by
    unfold execOp; rw [ho]
    simp [resolve, invoke, builtin, hq.val hx, Builtin.clear_, Sem.run_bind, run_underlying hu, hget, hset]) (h _ g1 (by simp) ⟨#[], clock, g2, .nil, by simp, by simp, by simp⟩)
end
end Go.Wl
