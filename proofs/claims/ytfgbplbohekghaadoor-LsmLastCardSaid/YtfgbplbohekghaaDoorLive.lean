/- lsm Compact where all live. -/
import Derived.Test.YtfgbplbohekghaaDoorCode
import Derived.Test.YtfgbplbohekghaaDoorTy
import Derived.Test.YtfgbplbohekghaaDoorRowX
import Derived.Test.YtfgbplbohekghaaDoorL10
import Derived.Test.YtfgbplbohekghaaDoorPut
set_option linter.unusedVariables false
set_option maxRecDepth 2000
namespace Go.Proofs.YtfgbplbohekghaaDoor
open Go.Wl Go.RowKit

theorem liveFn_calls (x : Ent) (w : World) : Calls Tryd.prog 19 #[.agg #[.string x.key, .string x.value, .bool x.dead]] w fun e w' => e = .returned (.bool x.dead) ∧ Below w.heap.size w w' := by
  refine enter F19 rfl rfl ?_
  refine WC.seq ?_
  refine WC.region ?_
  refine WL.box GOk.no rfl fun w1 hg1 hb1 hz1 => ?_
  have hW1 : Below w.heap.size w w1 := Bg (Below.refl _ _) hg1
  refine WL.pure rfl ?_
  refine WL.nil ?_
  refine WC.seq ?_
  refine WC.region ?_
  refine WL.fldAddr GOk.no fo38_2 rfl ?_
  refine WL.ld GOk.no sh4 rfl ((hb1.cell 2).trans rfl) ?_
  refine WL.pure rfl ?_
  refine WL.nil ?_
  refine WC.retn (Ret1 rfl ⟨rfl, hW1⟩)
theorem liveIndex_calls {ok : Nat → Prop} (A : Option Addr) (c : Nat) (l : List Ent) (w : World) (hl : Row rEnt ok w A l) (hd : ∀ x ∈ l, x.dead = false) : Calls Tryd.prog 34 #[.slice A l.length c, .func (.func 19) #[] #[]] w fun e w' => e = .returned (.int .i64 (-1)) ∧ Below w.heap.size w w' := by
  refine enter F34 rfl rfl ?_
  have hla := hl.1
  refine WC.seq ?_
  refine WC.region ?_
  refine WL.pure rfl ?_
  refine WL.nil ?_
  refine WC.seq ?_
  refine WC.seq ?_
  refine WC.region ?_
  refine WL.pure rfl ?_
  refine WL.lenS GOk.no Tryd.underlying39 rfl ?_
  refine WL.pure rfl ?_
  refine WL.nil ?_
  refine WC.block ?_
  refine WC.loop (σ := Nat) (fun k => [(0, .slice A l.length c), (1, .func (.func 19) #[] #[]), (4, .int .i64 0), (7, .int .i64 (l.length : Int)), (8, .int .i64 (k : Int))])
    (fun k w' => k ≤ l.length ∧ Below w.heap.size w w') (fun k => l.length - k) 0 ⟨by omega, (Below.refl _ _)⟩ (.cons rfl (.cons rfl (.cons rfl (.cons rfl (.cons rfl (.nil _)))))) ?_
  rintro k w' ⟨hkl, hB⟩
  refine WC.seq ?_
  refine WC.region ?_
  refine WL.pure rfl ?_
  refine WL.nil ?_
  refine WC.seq ?_
  refine WC.condD rfl (fun hc9 => ?_) (fun hc9 => ?_)
  · -- t9 = true
    refine WC.skip ?_
    refine WC.seq ?_
    refine WC.block ?_
    refine WC.seq ?_
    refine WC.region ?_
    refine WL.pure rfl ?_
    refine WL.pure rfl ?_
    refine WL.nil ?_
    refine WC.seq ?_
    refine WC.region ?_
    have hka : k < l.length := by omega
    obtain ⟨ad, rfl, hat⟩ := hl.ent k hka
    have hdk : l[k].dead = false := hd _ (List.getElem_mem hka)
    refine WL.pure rfl ?_
    refine WL.pure rfl ?_
    refine WL.pure rfl ?_
    refine WL.idxAddr GOk.no el39 rfl rfl (by omega) (by omega) ?_
    refine WL.ldAgg GOk.no sh38 rfl rfl (Ba hB hat) ?_
    refine WL.callV GOk.no rfl F19 rfl (liveFn_calls l[k] w') ?_
    rintro e w1 ⟨rfl, hB1⟩; refine ⟨_, rfl, ?_⟩
    have hW1 : Below w.heap.size w w1 := B2 hB hB1
    refine WL.nil ?_
    refine WC.cond rfl (fun hc16 => ?_) (fun hc16 => ?_)
    · -- t16 = true
      refine WC.seq ?_
      refine WC.region ?_
      refine WL.pure rfl ?_
      refine WL.pure rfl ?_
      refine WL.nil ?_
      refine WC.retn (Ret1 rfl ⟨absurd hc16 (by rw [hdk]; simp), hW1⟩)
    · -- t16 = false
      refine WC.skip ?_
      refine WC.region ?_
      refine WL.addI GOk.no rfl rfl (in_i64 (by omega) (by omega)) ?_
      refine WL.pure rfl ?_
      refine WL.nil ?_
      refine ⟨rfl, k + 1, (.cons rfl (.cons rfl (.cons rfl (.cons rfl (.cons rfl (.nil _)))))), ⟨by omega, hW1⟩, by omega⟩
  · -- t9 = false
    refine WC.exit rfl ?_
    refine WC.seq ?_
    refine WC.region ?_
    refine WL.pure rfl ?_
    refine WL.nil ?_
    refine WC.retn (Ret1 rfl ⟨rfl, hB⟩)
theorem liveAll_calls {ok : Nat → Prop} (A : Option Addr) (c : Nat) (l : List Ent) (w : World) (hl : Row rEnt ok w A l) (hd : ∀ x ∈ l, x.dead = false) : Calls Tryd.prog 18 #[.slice A l.length c, .func (.func 19) #[] #[]] w fun e w' => e = .returned (.slice A l.length c) ∧ Below w.heap.size w w' := by
  refine enter F18 rfl rfl ?_
  refine WC.seq ?_
  refine WC.region ?_
  refine WL.pure rfl ?_
  refine WL.nil ?_
  refine WC.seq ?_
  refine WC.region ?_
  refine WL.pure rfl ?_
  refine WL.pure rfl ?_
  refine WL.call GOk.no F34 rfl (liveIndex_calls A c l w hl hd) ?_
  rintro e w1 ⟨rfl, hB1⟩; refine ⟨_, rfl, ?_⟩
  have hW1 : Below w.heap.size w w1 := B2 (Below.refl _ _) hB1
  refine WL.pure rfl ?_
  refine WL.nil ?_
  refine WC.seq ?_
  refine WC.seq ?_
  refine WC.region ?_
  refine WL.pure rfl ?_
  refine WL.pure rfl ?_
  refine WL.nil ?_
  refine WC.condD rfl (fun hc12 => ?_) (fun hc12 => absurd rfl hc12)
  · -- t12 = true
    refine WC.seq ?_
    refine WC.region ?_
    refine WL.pure rfl ?_
    refine WL.pure rfl ?_
    refine WL.nil ?_
    refine WC.retn (Ret1 rfl ⟨rfl, hW1⟩)
theorem lsm_Store__Compact_calls (base g mb : Nat) (limit : Int) (m : List (ByteArray × Ent)) (ls : List (List Ent)) (w : World) (hst : St base g mb limit w m ls) (hbase : base ≤ w.heap.size) (hml : m.length ≤ 900) (hll : ls.length ≤ 900) (hsum : (ls.map List.length).sum ≤ 900) (hlive : ∀ ns : List Ent, ns.Perm (m.map (·.2)) → ∀ x ∈ (mixAll (ns :: ls)).map (·.2), x.dead = false) : Calls Tryd.prog 8 #[.pointer (some ⟨g, 0, none⟩)] w fun e w' => ∃ v, e = .returned v ∧ Below base w w' ∧ (St base g mb limit w' m ls ∨ ∃ ns xs : List Ent, ns.Perm (m.map (·.2)) ∧ xs.Perm ((mixAll (ns :: ls)).map (·.2)) ∧ St base g mb limit w' [] (if xs.length = 0 then [] else [xs])) := by
  obtain ⟨vt, vl, ts, htl, st⟩ := hst
  obtain ⟨Al, cl, hvl, _, hrowl⟩ := st.ol.slv
  have hc3 := st.cells.2.2.2
  rw [hvl] at hc3
  refine enter F8 rfl rfl ?_
  refine WC.seq ?_
  refine WC.region ?_
  refine WL.pure rfl ?_
  refine WL.nil ?_
  refine WC.seq ?_
  refine WC.region ?_
  refine WL.pure rfl ?_
  refine WL.call GOk.no F13 rfl (all_calls g mb m Al cl ls w st.cells.2.1 hc3 st.map st.key hrowl (by omega) (by omega)) ?_
  rintro e w1 ⟨v1, ns, xs, rfl, hpn, _, hpx, _, hox, hB1⟩; refine ⟨_, rfl, ?_⟩
  have hW1 : Below w.heap.size w w1 := B2 (Below.refl _ _) hB1
  have st1 := st.below hB1
  have hdx : ∀ x ∈ xs, x.dead = false := fun x hx => hlive ns hpn x (hpx.mem_iff.1 hx)
  obtain ⟨A1, c1, rfl, hc1, hrow1⟩ := hox.slv
  refine WL.call GOk.no F18 rfl (liveAll_calls A1 c1 xs w1 hrow1 hdx) ?_
  rintro e w2 ⟨rfl, hB2⟩; refine ⟨_, rfl, ?_⟩
  have hW2 : Below w.heap.size w w2 := B2 hW1 hB2
  have st2 := st1.below hB2
  have hrow2 := hrow1.move (show 0 < rEnt.sz by decide) (fun b _ hl => hB2.block b hl)
  refine WL.pure rfl ?_
  refine WL.nil ?_
  refine WC.seq ?_
  refine WC.region ?_
  refine WL.pure rfl ?_
  refine WL.call GOk.no F15 rfl (table_Build_calls A1 c1 xs w2 hrow2) ?_
  rintro e w3 ⟨v3, u3, rfl, hu3, hiff3, hown3, hB3⟩; refine ⟨_, rfl, ?_⟩
  have hW3 : Below w.heap.size w w3 := B2 hW2 hB3
  have st3 := st2.below hB3
  refine WL.pure rfl ?_
  refine WL.pure rfl ?_
  refine WL.pure rfl ?_
  refine WL.pure rfl ?_
  refine WL.pure rfl ?_
  refine WL.nil ?_
  refine WC.seq ?_
  refine WC.seq ?_
  refine WC.region ?_
  refine WL.pure rfl ?_
  refine WL.neNil GOk.no Tryd.underlying25 rfl hu3 ?_
  refine WL.nil ?_
  refine WC.cond rfl (fun hc15 => ?_) (fun hc15 => ?_)
  · -- t15 = true
    refine WC.seq ?_
    refine WC.region ?_
    refine WL.pure rfl ?_
    refine WL.pure rfl ?_
    refine WL.nil ?_
    refine WC.retn (Ret1 rfl ⟨_, rfl, hW3.mono hbase, .inl ⟨_, _, _, htl, st3⟩⟩)
  · -- t15 = false
    have hgood : GoodE xs := hiff3.1 (by simpa using hc15)
    obtain ⟨A3, c3, hv3, _, _⟩ := (hown3 hgood).slv
    subst hv3
    refine WC.skip ?_
    refine WC.seq ?_
    refine WC.region ?_
    refine WL.pure rfl ?_
    refine WL.nilCk GOk.no rfl ?_
    refine WL.fldAddr GOk.no fo50_1 rfl ?_
    refine WL.ld GOk.no sh47 rfl st3.cells.2.1 ?_
    refine WL.clearM GOk.no Tryd.underlying47 rfl st3.map fun w4 hg4 hz4 hm4 => ?_
    have hW4 : Below base w w4 := Bgr (hW3.mono hbase) hbase hg4 st.hm
    have st4 := st3.clear hg4 hm4 (fun _ h => by cases h)
    have hgl := st.box.lt
    have hml2 := st.map.lt
    refine WL.nil ?_
    refine WC.seq ?_
    refine WC.region ?_
    refine WL.pure rfl ?_
    refine WL.pure rfl ?_
    refine WL.nilCk GOk.no rfl ?_
    refine WL.fldAddr GOk.no fo50_2 rfl ?_
    refine WL.stOne GOk.no sh45 rfl rfl st4.box (by simp) rfl fun w5 hg5 hz5 hb5 => ?_
    have hW5 : Below base w w5 := Bgr hW4 hbase hg5 st.hg
    refine WL.nilCk GOk.no rfl ?_
    refine WL.fldAddr GOk.no fo50_3 rfl ?_
    refine WL.stOne GOk.no sh48 rfl rfl hb5 (by simp) rfl fun w6 hg6 hz6 hb6 => ?_
    have hW6 : Below base w w6 := Bgr hW5 hbase hg6 st.hg
    have hm6 := (st4.map.step hg5 (by have := st.ne; simp; omega) (fun _ h => h.elim)).step hg6 (by have := st.ne; simp; omega) (fun _ h => h.elim)
    have st6 : StX base g mb limit w6 (.slice none 0 0) (.slice none 0 0) [] [] [] := { box := hb6, ot := Own.nil _ _ _ _ _, ol := Own.nil _ _ _ _ _, map := hm6, hg := st.hg, hm := st.hm, ne := st.ne, t1 := by simp [Value.ownBlock], t2 := by simp [Value.ownBlock], l1 := by simp [Value.ownBlock], l2 := by simp [Value.ownBlock], tl := fun k h => by simp [Value.ownBlock] at h, key := fun _ h => by cases h }
    refine WL.nil ?_
    refine WC.seq ?_
    refine WC.seq ?_
    refine WC.region ?_
    refine WL.pure rfl ?_
    refine WL.lenS GOk.no Tryd.underlying39 rfl ?_
    refine WL.pure rfl ?_
    refine WL.nil ?_
    refine WC.condD rfl (fun hc29 => ?_) (fun hc29 => ?_)
    · -- t29 = true
      refine WC.region ?_
      refine WL.pure rfl ?_
      refine WL.pure rfl ?_
      refine WL.pure rfl ?_
      refine WL.bldS (e := 42) (cs := #[.slice A3 (tableB xs).length c3]) GOk.no rfl (by kernel_rfl) fun w7 hg7 hb7 hz7 => ?_
      have hW7 : Below base w w7 := Bge hW6 hbase (below_gb hg7)
      refine WL.pure rfl ?_
      refine WL.bldS (e := 39) (cs := #[.slice A1 xs.length c1]) GOk.no rfl (by kernel_rfl) fun w8 hg8 hb8 hz8 => ?_
      have hW8 : Below base w w8 := Bge hW7 hbase (below_gb hg8)
      refine WL.nilCk GOk.no rfl ?_
      refine WL.fldAddr GOk.no fo50_2 rfl ?_
      refine WL.stOne GOk.no sh45 rfl rfl ((hb6.step hg7 (by simp)).step hg8 (by simp)) (by simp) rfl fun w9 hg9 hz9 hb9 => ?_
      have hW9 : Below base w w9 := Bgr hW8 hbase hg9 st.hg
      refine WL.nilCk GOk.no rfl ?_
      refine WL.fldAddr GOk.no fo50_3 rfl ?_
      refine WL.stOne GOk.no sh48 rfl rfl hb9 (by simp) rfl fun w10 hg10 hz10 hb10 => ?_
      have hW10 : Below base w w10 := Bgr hW9 hbase hg10 st.hg
      refine WL.nil ?_
      refine WC.seq ?_
      refine WC.region ?_
      refine WL.pure rfl ?_
      refine WL.nil ?_
      refine WC.retn (Ret1 rfl ⟨_, rfl, hW10, .inr ⟨ns, xs, hpn, hpx, ?_⟩⟩)
      have hwg : w.heap.size ≤ w6.heap.size := by have := hB1.size; have := hB2.size; have := hB3.size; have := hg4.size; have := hg5.size; have := hg6.size; omega
      have hs78 : w7.heap.size = w6.heap.size + 1 := hz7
      have hbt := ((hb7.step hg8 (by simp)).step hg9 (by simp; omega)).step hg10 (by simp; omega)
      have hbl := (hb8.step hg9 (by simp; omega)).step hg10 (by simp; omega)
      have hd : ∀ b, some b = (Value.slice A1 xs.length c1).ownBlock → w.heap.size ≤ b ∧ b < w1.heap.size := fun b e => ⟨hox.bge b e.symm, hox.blt b e.symm⟩
      have h12 := hB2.size
      have h23 := hB3.size
      have h34 := hg4.size
      have h45 := hg5.size
      have h56 := hg6.size
      have hk : ∀ b, (False ∨ some b = (Value.slice A1 xs.length c1).ownBlock) → b < w1.heap.size → w10.heap[b]? = w1.heap[b]? := fun b hb hl => by
        have hb' := hd b (hb.resolve_left id)
        have hne := st.ne
        rw [hg10.block b (by have := hg9.size; have := hg8.size; omega) (by simp; omega), hg9.block b (by have := hg8.size; omega) (by simp; omega), hg8.block b (by omega) (by simp), hg7.block b (by omega) (by simp), hg6.block b (by omega) (by simp; omega), hg5.block b (by omega) (by simp; omega), hg4.block b (by omega) (by simp; omega), hB3.block b (by omega), hB2.block b hl]
      have hx10 : rLE.R (fun b => okL base g mb (.slice (some ⟨w6.heap.size, 0, none⟩) 1 1) b ∧ some b ≠ some w7.heap.size) w10 xs [.slice A1 xs.length c1] := by
        refine ⟨_, rfl, A1, c1, rfl, hc1, ((hrow1.mono (by decide) (ok' := fun b => (False ∨ some b = (Value.slice A1 xs.length c1).ownBlock) ∧ (okL base g mb (.slice (some ⟨w6.heap.size, 0, none⟩) 1 1) b ∧ some b ≠ some w7.heap.size)) fun b hb hl => ⟨hb, ?_⟩).move (by decide) fun b hb hl => hk b hb.1 hl).mono (by decide) fun b hb _ => hb.2⟩
        have hb' := hd b (hb.resolve_left id)
        exact ⟨⟨by omega, by omega, by omega, by simp [Value.ownBlock]; omega⟩, by simp; omega⟩
      rw [if_neg (by omega)]
      have hm10 := (((hm6.step hg7 (by simp) (fun _ h => h.elim)).step hg8 (by simp) (fun _ h => h.elim)).step hg9 (by have := st.ne; simp; omega) (fun _ h => h.elim)).step hg10 (by have := st.ne; simp; omega) (fun _ h => h.elim)
      exact ⟨_, _, [()], rfl, { box := hb10, ot := Own.ofBox (xs := [()]) (cs := [.slice A3 (tableB xs).length c3]) hbt (by omega) rfl (by simp) (Reps.one ⟨_, _, _, rfl⟩ rfl), ol := Own.ofBox (xs := [xs]) (cs := [.slice A1 xs.length c1]) hbl (by omega) rfl (by simp) (Reps.one hx10 rfl), map := hm10, hg := st.hg, hm := st.hm, ne := st.ne, t1 := by simp [Value.ownBlock]; omega, t2 := by simp [Value.ownBlock]; omega, l1 := by simp [Value.ownBlock]; omega, l2 := by simp [Value.ownBlock]; omega, tl := fun k h => by simp [Value.ownBlock] at h ⊢; omega, key := fun _ h => by cases h }⟩
    · -- t29 = false
      refine WC.skip ?_
      refine WC.seq ?_
      refine WC.region ?_
      refine WL.pure rfl ?_
      refine WL.nil ?_
      refine WC.retn (Ret1 rfl ⟨_, rfl, hW6, .inr ⟨ns, xs, hpn, hpx, by rw [if_pos (by omega)]; exact ⟨_, _, [], rfl, st6⟩⟩⟩)
end Go.Proofs.YtfgbplbohekghaaDoor
