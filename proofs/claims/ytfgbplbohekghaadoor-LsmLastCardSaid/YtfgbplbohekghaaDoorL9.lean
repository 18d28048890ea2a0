/- append(nil, make(..)...): a row of zero values. No condition. -/
import Derived.Test.YtfgbplbohekghaaDoorL8
import Derived.Lib.AppendZerosOnto
set_option linter.unusedVariables false
namespace Go.Wl
open Go.RowKit
theorem Own.fresh {α : Type} {r : Rep α} {e : TypeId} {base : Nat} {ok : Nat → Prop} {w : World} {g cap : Nat} {cur : Array Value} (hg : base ≤ g) (hh : w.heap[g]? = some (.cells cur e (0, 0))) (hc : cap ≤ maxLen) (hs : cur.size = cap * r.sz) :
    Own r e base ok w (.slice (some ⟨g, 0, none⟩) 0 cap) [] :=
  ⟨[], ⟨by simp, .inr ⟨g, cap, cur, rfl, hg, hh, Nat.zero_le _, hc, hs, by simp⟩⟩, Reps.nil _ _⟩
theorem Own.base {α : Type} {r : Rep α} {e : TypeId} {b b' : Nat} {ok : Nat → Prop} {w : World} {v : Value} {xs : List α} (h : Own r e b ok w v xs) (hb : b' ≤ b) : Own r e b' ok w v xs := by
  obtain ⟨cs, ⟨h1, h2⟩, h3⟩ := h
  refine ⟨cs, ⟨h1, ?_⟩, h3⟩
  rcases h2 with h2 | ⟨g, cap, cur, e1, hg, h4⟩
  · exact .inl h2
  · exact .inr ⟨g, cap, cur, e1, Nat.le_trans hb hg, h4⟩
theorem cutAddr_zero (A : Option Addr) (c k : Nat) : cutAddr A c 0 k = A := by
  unfold cutAddr
  split
  · rfl
  · cases A with
    | none => rfl
    | some a => simp only [Nat.zero_mul, Option.map_some]; congr 1
section
variable {P : Program} {n : Nat} {s : Sl} {ds : List Deferred} {w : World} {l : List SOp} {X : Cont} {pan : PCont} {d0 : Option Nat}
theorem WL.min2e {ts : Array TypeId} {x y : Operand} {k k' : IntKind} {a b r : Int} {g : Option (Nat × Bool)} (e : (if b < a then b else a) = r) (hg : GOk s g) (hx : Wl.val s x = some (.int k a)) (hy : Wl.val s y = some (.int k' b))
    (h : WL P n l X pan (push d0 (.int k r) s) ds w) : WL P n (⟨d0, .call { callee := .builtin .min, args := #[x, y], argTypes := ts }, g⟩ :: l) X pan s ds w := by
  subst e; exact WL.min2 hg hx hy h
theorem WL.convI' {t t' : TypeId} {x : Operand} {k k0 k' : IntKind} {a r : Int} {g : Option (Nat × Bool)} (e : k'.wrap a = r) (hg : GOk s g) (hu0 : P.underlying t = some (.int k0)) (hu : P.underlying t' = some (.int k')) (hx : Wl.val s x = some (.int k a))
    (h : WL P n l X pan (push d0 (.int k' r) s) ds w) : WL P n (⟨d0, .convert t t' x, g⟩ :: l) X pan s ds w := by
  subst e; exact WL.convI hg hu0 hu hx h
theorem WL.appMake {t tn e k by_ : Nat} {z : Value} {x y : Operand} {m : Nat} {kn : IntKind} {g : Option (Nat × Bool)} (hg : GOk s g) (hu : elemOf' P t = some (e, k, by_, z)) (hz : z.cells.size = k) (hk0 : 0 < k) (hn : P.underlying tn = some (.int kn))
    (hx : Wl.val s x = some (.slice none 0 0)) (hy : Wl.val s y = some (.int .i64 m)) (h0 : 0 < m) (hl : m * by_ ≤ 140737488355328) (h63 : m ≤ 4611686018427387904)
    (h : ∀ cap cur w1, m ≤ cap → cap ≤ maxLen → w.grownBy w1 none → w1.heap[w.heap.size]? = some (.cells cur e (0, 0)) → cur.size = cap * k → WL P n l X pan (push d0 (.slice (some ⟨w.heap.size, 0, none⟩) m cap) s) ds w1) :
    WL P n (⟨d0, .call { callee := .builtin .append, args := #[x, y], argTypes := #[t, tn] }, g⟩ :: l) X pan s ds w := by
  obtain ⟨hut, i, hi, hiz, hisz, hiby⟩ := elemOf'_spec hu
  refine WL.run hg fun q hq oo ho Kt QQ hK hp h1 h2 => ?_
  have hrun := Lib.run_append_grow_zeros (P := P) w t tn oo.type e i z .i64 kn hut hn hi hiz none 0 0 [] (run_firstCells_none w.drew i.size 0 0 0) m h0 (by omega) (by omega) (by omega) (by rw [hiby]; omega) (by rw [Nat.zero_add, hiby]; exact growslice_fits h0 hl)
  rw [Nat.zero_add] at hrun
  unfold Oper.wp execOp
  rw [ho]
  simp only [resolve, invoke, builtin, Sem.run_bind, Sem.run_pure, Result.andThen_ok, List.map_toArray, List.map_cons, List.map_nil, hq.val hx, hq.val hy, hrun]
  have hge := grownCap_ge w m 0 e
  have hgb : ∀ o, w.grownBy (w.drew.alloc o) none := fun o => ⟨rfl, rfl, rfl, by simp, fun c hc _ => heap_alloc_old w.drew o hc⟩
  refine hK _ _ (h (grownCap w m 0 e) _ _ hge (grownCap_le_maxLen w m 0 e (by unfold maxLen; omega)) (hgb _) (heap_alloc_new w.drew _) ?_) _ ?_
  · simp only [Array.size_append, size_zeroCells, List.size_toArray, List.length_nil, hz, Nat.zero_add, ← Nat.add_mul]
    congr 1; omega
  · have := hq.putO h1 (Value.slice (some ⟨w.heap.size, 0, none⟩) m (grownCap w m 0 e))
    rw [h2] at this ⊢
    exact this
end
end Go.Wl
