/- lsm.Store in memory, and Flush. -/
import Derived.Test.YtfgbplbohekghaaDoorCode
import Derived.Test.YtfgbplbohekghaaDoorTy
import Derived.Test.YtfgbplbohekghaaDoorRowX
import Derived.Test.YtfgbplbohekghaaDoorL13
import Derived.Test.YtfgbplbohekghaaDoorAll
import Derived.Test.YtfgbplbohekghaaDoorTBuild
import Derived.Test.YtfgbplbohekghaaDoorInsert
set_option linter.unusedVariables false
set_option maxRecDepth 2000
namespace Go.Proofs.YtfgbplbohekghaaDoor
open Go.Wl Go.RowKit

def okL (base g mb : Nat) (vt : Value) (b : Nat) : Prop := base ≤ b ∧ b ≠ g ∧ b ≠ mb ∧ some b ≠ vt.ownBlock
/-- The store at box g, all of it from block base on. -/
structure StX (base g mb : Nat) (limit : Int) (w : World) (vt vl : Value) (ts : List Unit) (m : List (ByteArray × Ent)) (ls : List (List Ent)) : Prop where
  box : Box w g #[.int .i64 limit, .map (some mb), vt, vl] 50
  ot : Own rAnyS 42 base (fun _ => False) w vt ts
  ol : Own rLE 39 base (okL base g mb vt) w vl ls
  map : MapAt kStrE vEnt (fun _ => False) w mb m
  hg : base ≤ g
  hm : base ≤ mb
  ne : g ≠ mb
  t1 : vt.ownBlock ≠ some g
  t2 : vt.ownBlock ≠ some mb
  l1 : vl.ownBlock ≠ some g
  l2 : vl.ownBlock ≠ some mb
  tl : ∀ k, vl.ownBlock = some k → vt.ownBlock ≠ some k
  key : ∀ p ∈ m, p.1 = p.2.key
section
variable {base g mb : Nat} {limit : Int} {w w' : World} {vt vl : Value} {ts : List Unit} {m : List (ByteArray × Ent)} {ls : List (List Ent)}
theorem StX.below (h : StX base g mb limit w vt vl ts m ls) (hB : Below w.heap.size w w') : StX base g mb limit w' vt vl ts m ls := { h with
  box := h.box.below hB
  ot := h.ot.move (fun k hk => hB.block k (h.ot.blt k hk)) (fun b hb _ _ => hb.elim)
  ol := h.ol.move (fun k hk => hB.block k (h.ol.blt k hk)) (fun b hb _ hl => hB.block b hl)
  map := h.map.move (hB.block _ h.map.lt) (fun _ h => h.elim) }
theorem StX.clear {m' : List (ByteArray × Ent)} (h : StX base g mb limit w vt vl ts m ls) (hg : w.grownBy w' (some mb)) (hm : MapAt kStrE vEnt (fun _ => False) w' mb m') (hk : ∀ p ∈ m', p.1 = p.2.key) : StX base g mb limit w' vt vl ts m' ls := { h with
  box := h.box.step hg (by have := h.ne; simp; omega)
  ot := h.ot.step hg (.inl h.t2) (fun _ hb => hb.elim)
  ol := h.ol.step hg (.inl h.l2) (fun b hb => by have := hb.2.2.1; simp; omega)
  map := hm
  key := hk }
theorem StX.cells (h : StX base g mb limit w vt vl ts m ls) : w.cell? ((⟨g, 0, none⟩ : Addr).add 0) = some (.int .i64 limit) ∧ w.cell? ((⟨g, 0, none⟩ : Addr).add 1) = some (.map (some mb)) ∧ w.cell? ((⟨g, 0, none⟩ : Addr).add 2) = some vt ∧ w.cell? ((⟨g, 0, none⟩ : Addr).add 3) = some vl :=
  ⟨(h.box.cell 0).trans rfl, (h.box.cell 1).trans rfl, (h.box.cell 2).trans rfl, (h.box.cell 3).trans rfl⟩
/-- A new row of tables. -/
theorem StX.insT {w2 : World} {vt' : Value} {ts' : List Unit} (h : StX base g mb limit w vt vl ts m ls) (ho : Own rAnyS 42 base (fun _ => False) w' vt' ts') (hg : w.grownBy w' vt.ownBlock) (hx : vt'.ownBlock = vt.ownBlock ∨ ∃ k, vt'.ownBlock = some k ∧ w.heap.size ≤ k)
    (hg2 : w'.grownBy w2 (some g)) (hb : Box w2 g #[.int .i64 limit, .map (some mb), vt', vl] 50) : StX base g mb limit w2 vt' vl ts' m ls := by
  have hgl := h.box.lt
  have hml := h.map.lt
  have hn : ∀ b, b < w.heap.size → some b ≠ vt.ownBlock → some b ≠ vt'.ownBlock := fun b hb hne e => by
    rcases hx with hx | ⟨k, hx, hk⟩
    · exact hne (e.trans hx)
    · rw [hx] at e; cases e; omega
  have hne : vt'.ownBlock ≠ some g := fun e => hn g hgl (fun e => h.t1 e.symm) e.symm
  exact { h with
    box := hb
    ot := ho.step hg2 (.inl hne) (fun _ hb => hb.elim)
    ol := by
      have h1 := h.ol.mono (ok' := fun b => okL base g mb vt b ∧ okL base g mb vt' b) (fun b hb hl => ⟨hb, hb.1, hb.2.1, hb.2.2.1, hn b hl hb.2.2.2⟩)
      have hvt : vl.ownBlock ≠ vt.ownBlock ∨ vt.ownBlock = none := by
        cases hv : vt.ownBlock with
        | none => exact .inr rfl
        | some k => exact .inl (fun e => h.tl k e hv)
      have h2 := h1.step hg hvt (fun b hb => hb.1.2.2.2)
      have h3 := h2.step hg2 (.inl h.l1) (fun b hb => by have := hb.1.2.1; simp; omega)
      exact h3.mono fun b hb _ => hb.2
    map := (h.map.step hg (fun e => h.t2 e.symm) (fun _ hb => hb.elim)).step hg2 (by have := h.ne; simp; omega) (fun _ hb => hb.elim)
    t1 := hne
    t2 := fun e => hn mb hml (fun e => h.t2 e.symm) e.symm
    tl := fun k hk e => hn k (h.ol.blt k hk) (fun e => h.tl k hk e.symm) e.symm }
/-- A new row of lists. -/
theorem StX.insL {w2 : World} {vl' : Value} {ls' : List (List Ent)} (h : StX base g mb limit w vt vl ts m ls) (ho : Own rLE 39 base (okL base g mb vt) w' vl' ls') (hg : w.grownBy w' vl.ownBlock) (hx : vl'.ownBlock = vl.ownBlock ∨ ∃ k, vl'.ownBlock = some k ∧ w.heap.size ≤ k)
    (hg2 : w'.grownBy w2 (some g)) (hb : Box w2 g #[.int .i64 limit, .map (some mb), vt, vl'] 50) : StX base g mb limit w2 vt vl' ts m ls' := by
  have hgl := h.box.lt
  have hml := h.map.lt
  have hn : ∀ b, b < w.heap.size → some b ≠ vl.ownBlock → some b ≠ vl'.ownBlock := fun b hb hne e => by
    rcases hx with hx | ⟨k, hx, hk⟩
    · exact hne (e.trans hx)
    · rw [hx] at e; cases e; omega
  have hne : vl'.ownBlock ≠ some g := fun e => hn g hgl (fun e => h.l1 e.symm) e.symm
  exact { h with
    box := hb
    ot := (h.ot.move (fun k hk => hg.block k (h.ot.blt k hk) (fun e => h.tl k e.symm hk)) (fun _ hb _ _ => hb.elim)).step hg2 (.inl h.t1) (fun _ hb => hb.elim)
    ol := ho.step hg2 (.inl hne) (fun b hb => by have := hb.2.1; simp; omega)
    map := (h.map.step hg (fun e => h.l2 e.symm) (fun _ hb => hb.elim)).step hg2 (by have := h.ne; simp; omega) (fun _ hb => hb.elim)
    l1 := hne
    l2 := fun e => hn mb hml (fun e => h.l2 e.symm) e.symm
    tl := fun k hk e => by
      rcases hx with hx | ⟨j, hx, hj⟩
      · exact h.tl k (hx.symm.trans hk) e
      · rw [hx] at hk; cases hk; have := h.ot.blt k e; omega }
end
/-- The store at g, somehow. -/
def St (base g mb : Nat) (limit : Int) (w : World) (m : List (ByteArray × Ent)) (ls : List (List Ent)) : Prop := ∃ vt vl ts, ts.length = ls.length ∧ StX base g mb limit w vt vl ts m ls
theorem St.below {base g mb : Nat} {limit : Int} {w w' : World} {m : List (ByteArray × Ent)} {ls : List (List Ent)} (h : St base g mb limit w m ls) (hB : Below w.heap.size w w') : St base g mb limit w' m ls := by
  obtain ⟨vt, vl, ts, hl, h⟩ := h
  exact ⟨vt, vl, ts, hl, h.below hB⟩
theorem Bge {base : Nat} {w w1 w2 : World} (h : Below base w w1) (hb : base ≤ w.heap.size) (k : Below w1.heap.size w1 w2) : Below base w w2 := h.trans (k.mono (Nat.le_trans hb h.size))
theorem Bgr {base k : Nat} {w w1 w2 : World} (h : Below base w w1) (hb : base ≤ w.heap.size) (hg : w1.grownBy w2 (some k)) (hk : base ≤ k) : Below base w w2 := h.grown hg (Nat.le_trans hb h.size) (fun j e => by cases e; exact hk)

theorem lsm_Flush_calls (base g mb : Nat) (limit : Int) (m : List (ByteArray × Ent)) (ls : List (List Ent)) (w : World) (hst : St base g mb limit w m ls) (hbase : base ≤ w.heap.size) (hml : m.length ≤ 1000) (hll : ls.length ≤ 1000) :
    Calls Tryd.prog 7 #[.pointer (some ⟨g, 0, none⟩)] w fun e w' => ∃ v, e = .returned v ∧ isIf v = true ∧ Below base w w' ∧ (St base g mb limit w' m ls ∨ ∃ xs : List Ent, xs.Perm (m.map (·.2)) ∧ St base g mb limit w' [] (xs :: ls)) := by
  obtain ⟨vt, vl, ts, htl, st⟩ := hst
  have hnews := news_calls g mb m w st.cells.2.1 st.map st.key (by omega)
  refine enter F7 rfl rfl ?_
  refine WC.seq ?_
  refine WC.region ?_
  refine WL.pure rfl ?_
  refine WL.nil ?_
  refine WC.seq ?_
  refine WC.region ?_
  refine WL.pure rfl ?_
  refine WL.call GOk.no F14 rfl (hnews) ?_
  rintro e w1 ⟨v1, xs, rfl, hp1, _, ho1, hB1⟩; refine ⟨_, rfl, ?_⟩
  have st1 := st.below hB1
  have hW1 : Below base w w1 := hB1.mono hbase
  obtain ⟨A1, c1, rfl, hc1, hrow1⟩ := ho1.slv
  refine WL.pure rfl ?_
  refine WL.nil ?_
  refine WC.seq ?_
  refine WC.seq ?_
  refine WC.region ?_
  refine WL.pure rfl ?_
  refine WL.lenS GOk.no Tryd.underlying39 rfl ?_
  refine WL.pure rfl ?_
  refine WL.nil ?_
  refine WC.condD rfl (fun hc10 => ?_) (fun hc10 => ?_)
  · -- t10 = true
    refine WC.seq ?_
    refine WC.region ?_
    refine WL.pure rfl ?_
    refine WL.nil ?_
    refine WC.retn (Ret1 rfl ⟨_, rfl, rfl, hW1, .inl ⟨_, _, _, htl, st1⟩⟩)
  · -- t10 = false
    refine WC.skip ?_
    refine WC.seq ?_
    refine WC.region ?_
    refine WL.pure rfl ?_
    refine WL.call GOk.no F15 rfl (table_Build_calls A1 c1 xs w1 hrow1) ?_
    rintro e w2 ⟨v2, u2, rfl, hu2, hiff2, hown2, hB2⟩; refine ⟨_, rfl, ?_⟩
    have st2 := st1.below hB2
    have hW2 : Below base w w2 := Bge hW1 hbase hB2
    refine WL.pure rfl ?_
    refine WL.pure rfl ?_
    refine WL.pure rfl ?_
    refine WL.pure rfl ?_
    refine WL.pure rfl ?_
    refine WL.nil ?_
    refine WC.seq ?_
    refine WC.seq ?_
    refine WC.region ?_
    refine WL.pure rfl ?_
    refine WL.neNil GOk.no Tryd.underlying25 rfl hu2 ?_
    refine WL.nil ?_
    refine WC.cond rfl (fun hc17 => ?_) (fun hc17 => ?_)
    · -- t17 = true
      refine WC.seq ?_
      refine WC.region ?_
      refine WL.pure rfl ?_
      refine WL.pure rfl ?_
      refine WL.nil ?_
      refine WC.retn (Ret1 rfl ⟨_, rfl, hu2, hW2, .inl ⟨_, _, _, htl, st2⟩⟩)
    · -- t17 = false
      have hgood : GoodE xs := hiff2.1 (by simpa using hc17)
      obtain ⟨A2, c2, hv2, _, _⟩ := (hown2 hgood).slv
      subst hv2
      refine WC.skip ?_
      refine WC.seq ?_
      refine WC.region ?_
      refine WL.pure rfl ?_
      refine WL.pure rfl ?_
      refine WL.nilCk GOk.no rfl ?_
      refine WL.fldAddr GOk.no fo50_2 rfl ?_
      refine WL.ld GOk.no sh45 rfl st2.cells.2.2.1 ?_
      refine WL.pure rfl ?_
      refine WL.bldS (e := 42) (cs := #[.slice A2 (tableB xs).length c2]) GOk.no rfl (by kernel_rfl) fun w3 hg3 hb3 hz3 => ?_
      have st3 := st2.below (below_gb hg3)
      have hW3 : Below base w w3 := Bge hW2 hbase (below_gb hg3)
      have hge3 : base ≤ w3.heap.size := Nat.le_trans hbase hW3.size
      have hne3 : some w2.heap.size ≠ vt.ownBlock := fun e => by have := st2.ot.blt _ e.symm; omega
      refine WL.call GOk.no F16 rfl (insB_calls vt ts () _ w2.heap.size w3 st3.ot hb3 ⟨_, _, _, rfl⟩ hne3 hge3 (by omega)) ?_
      rintro e w4 ⟨v4, rfl, ho4, hg4, hx4⟩; refine ⟨_, rfl, ?_⟩
      have hW4 : Below base w w4 := hW3.grown hg4 hge3 (fun j e => st3.ot.bge j e)
      have hgl : g < w3.heap.size := st3.box.lt
      have hb4 := st3.box.step hg4 (fun e => st3.t1 e.symm)
      refine WL.nilCk GOk.no rfl ?_
      refine WL.fldAddr GOk.no fo50_2 rfl ?_
      have h1v4 : v4.oneCell' = true := by obtain ⟨_, _, e, _⟩ := ho4.slv; rw [e]; rfl
      refine WL.stOne GOk.no sh45 rfl rfl hb4 (by simp) h1v4 fun w5 hg5 hz5 hb5 => ?_
      have hW5 : Below base w w5 := Bgr hW4 hbase hg5 st.hg
      have st5 := st3.insT ho4 hg4 hx4 hg5 hb5
      refine WL.nil ?_
      refine WC.seq ?_
      refine WC.region ?_
      refine WL.pure rfl ?_
      refine WL.pure rfl ?_
      refine WL.nilCk GOk.no rfl ?_
      refine WL.fldAddr GOk.no fo50_3 rfl ?_
      refine WL.ld GOk.no sh48 rfl st5.cells.2.2.2 ?_
      refine WL.pure rfl ?_
      refine WL.bldS (e := 39) (cs := #[.slice A1 xs.length c1]) GOk.no rfl (by kernel_rfl) fun w6 hg6 hb6 hz6 => ?_
      have st6 := st5.below (below_gb hg6)
      have hW6 : Below base w w6 := Bge hW5 hbase (below_gb hg6)
      have hge6 : base ≤ w6.heap.size := Nat.le_trans hbase hW6.size
      have hne6 : some w5.heap.size ≠ vl.ownBlock := fun e => by have := st5.ol.blt _ e.symm; omega
      have hs13 : w1.heap.size ≤ w3.heap.size := Nat.le_trans hB2.size hg3.size
      have hx6 : rLE.R (fun b => okL base g mb v4 b ∧ some b ≠ vl.ownBlock) w6 xs [.slice A1 xs.length c1] := by
        have hd : ∀ b, some b = (Value.slice A1 xs.length c1).ownBlock → w.heap.size ≤ b ∧ b < w1.heap.size := fun b e => ⟨ho1.bge b e.symm, ho1.blt b e.symm⟩
        have hk : ∀ b, (False ∨ some b = (Value.slice A1 xs.length c1).ownBlock) → b < w1.heap.size → w6.heap[b]? = w1.heap[b]? := fun b hb hl => by
          have hb' := hd b (hb.resolve_left id)
          have e2 := hB2.block b hl
          have e3 := hg3.block b (Nat.lt_of_lt_of_le hl hB2.size) (by simp)
          have e4 := hg4.block b (by omega) (fun e => by have := st.ot.blt b e.symm; omega)
          have e5 := hg5.block b (by have := hg4.size; omega) (by have := st.box.lt; simp; omega)
          have e6 := hg6.block b (by have := hg4.size; have := hg5.size; omega) (by simp)
          rw [e6, e5, e4, e3, e2]
        refine ⟨_, rfl, A1, c1, rfl, hc1, ((hrow1.mono (by decide) (ok' := fun b => (False ∨ some b = (Value.slice A1 xs.length c1).ownBlock) ∧ (okL base g mb v4 b ∧ some b ≠ vl.ownBlock)) fun b hb hl => ⟨hb, ?_⟩).move (by decide) fun b hb hl => hk b hb.1 hl).mono (by decide) fun b hb _ => hb.2⟩
        have hb' := hd b (hb.resolve_left id)
        have hgl := st.box.lt
        have hml := st.map.lt
        refine ⟨⟨by omega, by omega, by omega, fun e => ?_⟩, fun e => ?_⟩
        · rcases hx4 with hx4 | ⟨k, hx4, hk4⟩
          · have := st.ot.blt b (by rw [← hx4, ← e]); omega
          · rw [hx4] at e; cases e; omega
        · have := st.ol.blt b e.symm; omega
      refine WL.call GOk.no F17 rfl (insL_calls vl ls xs _ w5.heap.size w6 st6.ol hb6 hx6 hne6 hge6 hll) ?_
      rintro e w7 ⟨v7, rfl, ho7, hg7, hx7⟩; refine ⟨_, rfl, ?_⟩
      have hW7 : Below base w w7 := hW6.grown hg7 hge6 (fun j e => st6.ol.bge j e)
      have hb7 := st6.box.step hg7 (fun e => st6.l1 e.symm)
      have h1v7 : v7.oneCell' = true := by obtain ⟨_, _, e, _⟩ := ho7.slv; rw [e]; rfl
      refine WL.nilCk GOk.no rfl ?_
      refine WL.fldAddr GOk.no fo50_3 rfl ?_
      refine WL.stOne GOk.no sh48 rfl rfl hb7 (by simp) h1v7 fun w8 hg8 hz8 hb8 => ?_
      have hW8 : Below base w w8 := Bgr hW7 hbase hg8 st.hg
      have st8 := st6.insL ho7 hg7 hx7 hg8 hb8
      refine WL.nil ?_
      refine WC.seq ?_
      refine WC.region ?_
      refine WL.pure rfl ?_
      refine WL.nilCk GOk.no rfl ?_
      refine WL.fldAddr GOk.no fo50_1 rfl ?_
      refine WL.ld GOk.no sh47 rfl st8.cells.2.1 ?_
      refine WL.clearM GOk.no Tryd.underlying47 rfl st8.map fun w9 hg9 hz9 hm9 => ?_
      have hW9 : Below base w w9 := Bgr hW8 hbase hg9 st.hm
      have st9 := st8.clear hg9 hm9 (fun _ h => by cases h)
      refine WL.nil ?_
      refine WC.seq ?_
      refine WC.region ?_
      refine WL.pure rfl ?_
      refine WL.nil ?_
      refine WC.retn (Ret1 rfl ⟨_, rfl, rfl, hW9, .inr ⟨xs, hp1, _, _, _, by simp [htl], st9⟩⟩)
end Go.Proofs.YtfgbplbohekghaaDoor
