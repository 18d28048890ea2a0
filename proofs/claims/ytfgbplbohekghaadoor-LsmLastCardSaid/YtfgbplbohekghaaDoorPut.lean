/- lsm put. -/
import Derived.Test.YtfgbplbohekghaaDoorCode
import Derived.Test.YtfgbplbohekghaaDoorTy
import Derived.Test.YtfgbplbohekghaaDoorRowX
import Derived.Test.YtfgbplbohekghaaDoorL10
import Derived.Test.YtfgbplbohekghaaDoorStore
import Derived.Test.YtfgbplbohekghaaDoorHas
set_option linter.unusedVariables false
set_option maxRecDepth 2000
namespace Go.Proofs.YtfgbplbohekghaaDoor
open Go.Wl Go.RowKit

theorem setM_len {P : Program} {K : TypeId} {κ α : Type} (k : KeyK P K κ) (m : List (κ × α)) (x : κ) (v : α) : (setM k m x v).length ≤ m.length + 1 := by
  induction m with
  | nil => simp [setM]
  | cons p r ih =>
    simp only [setM]
    split
    · simp
    · simp; omega
theorem setM_mem {P : Program} {K : TypeId} {κ α : Type} (k : KeyK P K κ) (m : List (κ × α)) (x : κ) (v : α) : ∀ p ∈ setM k m x v, p = (x, v) ∨ p ∈ m := by
  induction m with
  | nil => intro p hp; simp [setM] at hp; exact .inl hp
  | cons q r ih =>
    intro p hp
    simp only [setM] at hp
    split at hp
    · rcases List.mem_cons.1 hp with h | h
      · exact .inl h
      · exact .inr (List.mem_cons_of_mem _ h)
    · rcases List.mem_cons.1 hp with h | h
      · exact .inr (by simp [h])
      · rcases ih p h with h | h
        · exact .inl h
        · exact .inr (List.mem_cons_of_mem _ h)
theorem lsm_Store__put_calls (base g mb : Nat) (limit : Int) (m : List (ByteArray × Ent)) (ls : List (List Ent)) (x : Ent) (w : World) (hst : St base g mb limit w m ls) (hbase : base ≤ w.heap.size) (hml : m.length ≤ 900) (hll : ls.length ≤ 900) (hsum : (ls.map List.length).sum ≤ 900) : Calls Tryd.prog 12 #[.pointer (some ⟨g, 0, none⟩), .agg #[.string x.key, .string x.value, .bool x.dead]] w fun e w' => ∃ v, e = .returned v ∧ isIf v = true ∧ Below base w w' ∧ (nilB v = true → (x.key.size ≤ 120 ∧ x.value.size ≤ 120) ∧ (St base g mb limit w' (setM kStrE m x.key x) ls ∨ ∃ xs : List Ent, xs.Perm ((setM kStrE m x.key x).map (·.2)) ∧ St base g mb limit w' [] (xs :: ls))) ∧ (x.key.size ≤ 120 → x.value.size ≤ 120 → m.length + (ls.map List.length).sum < 400 → ((setM kStrE m x.key x).length : Int) < limit → nilB v = true ∧ St base g mb limit w' (setM kStrE m x.key x) ls) := by
  obtain ⟨vt, vl, ts, htl, st⟩ := hst
  have hk' : ∀ p ∈ setM kStrE m x.key x, p.1 = p.2.key := fun p hp => by
    rcases setM_mem kStrE m x.key x p hp with rfl | h
    · rfl
    · exact st.key p h
  have hlen' := setM_len kStrE m x.key x
  refine enter F12 rfl rfl ?_
  refine WC.seq ?_
  refine WC.region ?_
  refine WL.box GOk.no rfl fun w1 hg1 hb1 hz1 => ?_
  have hW1 : Below w.heap.size w w1 := Bg (Below.refl _ _) hg1
  have st1 := st.below (below_gb hg1)
  refine WL.pure rfl ?_
  refine WL.nil ?_
  refine WC.seq ?_
  refine WC.seq ?_
  refine WC.region ?_
  refine WL.fldAddr GOk.no fo38_0 rfl ?_
  refine WL.ld GOk.no sh9 rfl ((hb1.cell 0).trans rfl) ?_
  refine WL.lenStr GOk.no Tryd.underlying9 rfl ?_
  refine WL.pure rfl ?_
  refine WL.pure rfl ?_
  refine WL.caseD (d := 11) rfl (fun h11 => ?_) (fun h11 => ?_)
  · -- t11 = true
    refine WL.offF rfl ?_
    refine WL.offF rfl ?_
    refine WL.offF rfl ?_
    refine WL.offF rfl ?_
    refine WL.pure rfl ?_
    refine WL.nil ?_
    refine WC.condT rfl rfl ?_
    refine WC.seq ?_
    refine WC.region ?_
    refine WL.mkIface GOk.no Tryd.underlying41 rfl rfl ?_
    refine WL.pure rfl ?_
    refine WL.nil ?_
    refine WC.retn (Ret1 rfl ⟨_, rfl, rfl, hW1.mono hbase, fun h => (by cases h), fun h => absurd h (by omega)⟩)
  · -- t11 = false
    refine WL.fldAddr (GOk.yes rfl) fo38_1 rfl ?_
    refine WL.ld (GOk.yes rfl) sh9 rfl ((hb1.cell 1).trans rfl) ?_
    refine WL.lenStr (GOk.yes rfl) Tryd.underlying9 rfl ?_
    refine WL.gpure rfl rfl ?_
    refine WL.pure rfl ?_
    refine WL.nil ?_
    refine WC.condD rfl (fun hc16 => ?_) (fun hc16 => ?_)
    · -- t16 = true
      refine WC.seq ?_
      refine WC.region ?_
      refine WL.mkIface GOk.no Tryd.underlying41 rfl rfl ?_
      refine WL.pure rfl ?_
      refine WL.nil ?_
      refine WC.retn (Ret1 rfl ⟨_, rfl, rfl, hW1.mono hbase, fun h => (by cases h), fun _ h => absurd h (by omega)⟩)
    · -- t16 = false
      refine WC.skip ?_
      refine WC.seq ?_
      refine WC.region ?_
      refine WL.pure rfl ?_
      obtain ⟨Al, cl, hvl, _, hrowl⟩ := st1.ol.slv
      have hc3 := st1.cells.2.2.2
      rw [hvl] at hc3
      refine WL.call GOk.no F13 rfl (all_calls g mb m Al cl ls w1 st1.cells.2.1 hc3 st1.map st1.key hrowl (by omega) (by omega)) ?_
      rintro e w2 ⟨v2, ns, xs, rfl, hpn, _, hpx, _, hox, hB2⟩; refine ⟨_, rfl, ?_⟩
      have hW2 : Below w.heap.size w w2 := B2 hW1 hB2
      have hb3_1 := Box.below hb1 hB2
      have st2 := st1.below hB2
      obtain ⟨A2, c2, rfl, hc2, hxl⟩ := hox.slv
      have hxn : xs.length ≤ m.length + (ls.map List.length).sum := by have h1 := hpx.length_eq; have h2 := hpn.length_eq; have h3 := mixAll_len (ns :: ls); simp only [List.length_map, List.map_cons, List.sum_cons] at h1 h2 h3; omega
      refine WL.pure rfl ?_
      refine WL.nil ?_
      refine WC.seq ?_
      refine WC.region ?_
      refine WL.pure rfl ?_
      refine WL.pure rfl ?_
      refine WL.call GOk.no F23 rfl (entHas_calls A2 c2 xs x.key w.heap.size w2 hxl ((hb3_1.cell 0).trans rfl)) ?_
      rintro e w3 ⟨bo, rfl, hbo, hB3⟩; refine ⟨_, rfl, ?_⟩
      have hW3 : Below w.heap.size w w3 := B2 hW2 hB3
      have hb3_2 := Box.below hb3_1 hB3
      have st3 := st2.below hB3
      refine WL.pure rfl ?_
      refine WL.nil ?_
      refine WC.seq ?_
      refine WC.seq ?_
      refine WC.region ?_
      refine WL.pure rfl ?_
      refine WL.pure rfl ?_
      refine WL.pure rfl ?_
      refine WL.caseB (d := 25) rfl (fun h25 => ?_) (fun h25 => ?_)
      · -- t25 = true
        refine WL.gpure rfl rfl ?_
        refine WL.lenS (GOk.yes rfl) Tryd.underlying39 rfl ?_
        refine WL.gpure rfl rfl ?_
        refine WL.pure rfl ?_
        refine WL.nil ?_
        refine WC.condD rfl (fun hc29 => ?_) (fun hc29 => ?_)
        · -- t29 = true
          refine WC.seq ?_
          refine WC.region ?_
          refine WL.mkIface GOk.no Tryd.underlying41 rfl rfl ?_
          refine WL.pure rfl ?_
          refine WL.nil ?_
          refine WC.retn (Ret1 rfl ⟨_, rfl, rfl, hW3.mono hbase, fun h => (by cases h), fun _ _ h => absurd h (by omega)⟩)
        · -- t29 = false
          refine WC.skip ?_
          refine WC.seq ?_
          refine WC.mix (Below w3.heap.size w3) (by kernel_rfl) fun w4 hg4 hh4 => ?_
          have hW4 : Below w.heap.size w w4 := Bg hW3 hg4
          have hS4 : Below w3.heap.size w3 w4 := below_gb hg4
          have hb3_3 := Box.step hb3_2 hg4 (by simp)
          have st4 := st3.below (below_gb hg4)
          refine WM.p hS4 rfl ?_
          refine WM.o GOk.no hS4 (fun w0 hS0 => o_nilCk rfl) ?_
          refine WM.o GOk.no hS4 (fun w0 hS0 => o_fldAddr fo50_1 rfl) ?_
          refine WM.o GOk.no hS4 (fun w0 hS0 => o_ld sh47 rfl (Bc hS0 st3.cells.2.1)) ?_
          refine WM.o GOk.no hS4 (fun w0 hS0 => o_fldAddr fo38_0 rfl) ?_
          refine WM.o GOk.no hS4 (fun w0 hS0 => o_ld sh9 rfl (Bc hS0 ((hb3_2.cell 0).trans rfl))) ?_
          refine WM.o GOk.no hS4 (fun w0 hS0 => o_ldAgg sh38 rfl rfl (Ba hS0 hb3_2.at_)) ?_
          refine WM.z ?_
          refine WL.upd GOk.no Tryd.underlying47 rfl rfl rfl st4.map ⟨_, rfl, rEnt_mk⟩ (fun h => h) fun w5 hg5 hz5 hm5 => ?_
          have hb3_4 := Box.step hb3_3 hg5 (by have := st.map.lt; simp; omega)
          have st5 := st4.clear hg5 hm5 hk'
          have hV5 : Below base w w5 := Bgr (hW4.mono hbase) hbase hg5 st.hm
          refine WL.nil ?_
          refine WM.nil ?_
          refine WC.seq ?_
          refine WC.seq ?_
          refine WC.mix (Below w5.heap.size w5) (by kernel_rfl) fun w6 hg6 hh6 => ?_
          have hW6 : Below base w w6 := Bge hV5 hbase (below_gb hg6)
          have hS6 : Below w5.heap.size w5 w6 := below_gb hg6
          have hb3_5 := Box.step hb3_4 hg6 (by simp)
          have st6 := st5.below (below_gb hg6)
          refine WM.p hS6 rfl ?_
          refine WM.o GOk.no hS6 (fun w0 hS0 => o_nilCk rfl) ?_
          refine WM.o GOk.no hS6 (fun w0 hS0 => o_fldAddr fo50_1 rfl) ?_
          refine WM.o GOk.no hS6 (fun w0 hS0 => o_ld sh47 rfl (Bc hS0 st5.cells.2.1)) ?_
          refine WM.o GOk.no hS6 (fun w0 hS0 => o_lenM Tryd.underlying47 rfl (st5.map.move (hS0.block _ st5.map.lt) (fun _ h => h.elim))) ?_
          refine WM.p hS6 rfl ?_
          refine WM.o GOk.no hS6 (fun w0 hS0 => o_nilCk rfl) ?_
          refine WM.o GOk.no hS6 (fun w0 hS0 => o_fldAddr fo50_0 rfl) ?_
          refine WM.o GOk.no hS6 (fun w0 hS0 => o_ld sh3 rfl (Bc hS0 st5.cells.1)) ?_
          refine WM.p hS6 rfl ?_
          refine WM.nil ?_
          refine WC.condD rfl (fun hc47 => ?_) (fun hc47 => ?_)
          · -- t47 = true
            refine WC.seq ?_
            refine WC.region ?_
            refine WL.pure rfl ?_
            refine WL.call GOk.no F7 rfl (lsm_Flush_calls base g mb limit _ ls w6 ⟨_, _, _, htl, st6⟩ (Nat.le_trans hbase hW6.size) (by omega) (by omega)) ?_
            rintro e w7 ⟨v7, rfl, hv7, hB7, hs7⟩; refine ⟨_, rfl, ?_⟩
            have hW7 : Below base w w7 := hW6.trans hB7
            have hx7 := hs7
            refine WL.pure rfl ?_
            refine WL.nil ?_
            refine WC.retn (Ret1 rfl ⟨_, rfl, hv7, hW7, fun _ => ⟨by omega, hs7⟩, fun _ _ _ h => absurd h (by omega)⟩)
          · -- t47 = false
            refine WC.skip ?_
            refine WC.seq ?_
            refine WC.region ?_
            refine WL.pure rfl ?_
            refine WL.nil ?_
            refine WC.retn (Ret1 rfl ⟨_, rfl, rfl, hW6, fun _ => ⟨by omega, .inl ⟨_, _, _, htl, st6⟩⟩, fun _ _ _ h => ⟨rfl, _, _, _, htl, st6⟩⟩)
      · -- t25 = false
        refine WL.offT rfl ?_
        refine WL.offT rfl ?_
        refine WL.offT rfl ?_
        refine WL.pure rfl ?_
        refine WL.nil ?_
        refine WC.condF rfl rfl ?_
        refine WC.skip ?_
        refine WC.seq ?_
        refine WC.mix (Below w3.heap.size w3) (by kernel_rfl) fun w8 hg8 hh8 => ?_
        have hW8 : Below w.heap.size w w8 := Bg hW3 hg8
        have hS8 : Below w3.heap.size w3 w8 := below_gb hg8
        have hb3_7 := Box.step hb3_2 hg8 (by simp)
        have st8 := st3.below (below_gb hg8)
        refine WM.p hS8 rfl ?_
        refine WM.o GOk.no hS8 (fun w0 hS0 => o_nilCk rfl) ?_
        refine WM.o GOk.no hS8 (fun w0 hS0 => o_fldAddr fo50_1 rfl) ?_
        refine WM.o GOk.no hS8 (fun w0 hS0 => o_ld sh47 rfl (Bc hS0 st3.cells.2.1)) ?_
        refine WM.o GOk.no hS8 (fun w0 hS0 => o_fldAddr fo38_0 rfl) ?_
        refine WM.o GOk.no hS8 (fun w0 hS0 => o_ld sh9 rfl (Bc hS0 ((hb3_2.cell 0).trans rfl))) ?_
        refine WM.o GOk.no hS8 (fun w0 hS0 => o_ldAgg sh38 rfl rfl (Ba hS0 hb3_2.at_)) ?_
        refine WM.z ?_
        refine WL.upd GOk.no Tryd.underlying47 rfl rfl rfl st8.map ⟨_, rfl, rEnt_mk⟩ (fun h => h) fun w9 hg9 hz9 hm9 => ?_
        have hb3_8 := Box.step hb3_7 hg9 (by have := st.map.lt; simp; omega)
        have st9 := st8.clear hg9 hm9 hk'
        have hV9 : Below base w w9 := Bgr (hW8.mono hbase) hbase hg9 st.hm
        refine WL.nil ?_
        refine WM.nil ?_
        refine WC.seq ?_
        refine WC.seq ?_
        refine WC.mix (Below w9.heap.size w9) (by kernel_rfl) fun w10 hg10 hh10 => ?_
        have hW10 : Below base w w10 := Bge hV9 hbase (below_gb hg10)
        have hS10 : Below w9.heap.size w9 w10 := below_gb hg10
        have hb3_9 := Box.step hb3_8 hg10 (by simp)
        have st10 := st9.below (below_gb hg10)
        refine WM.p hS10 rfl ?_
        refine WM.o GOk.no hS10 (fun w0 hS0 => o_nilCk rfl) ?_
        refine WM.o GOk.no hS10 (fun w0 hS0 => o_fldAddr fo50_1 rfl) ?_
        refine WM.o GOk.no hS10 (fun w0 hS0 => o_ld sh47 rfl (Bc hS0 st9.cells.2.1)) ?_
        refine WM.o GOk.no hS10 (fun w0 hS0 => o_lenM Tryd.underlying47 rfl (st9.map.move (hS0.block _ st9.map.lt) (fun _ h => h.elim))) ?_
        refine WM.p hS10 rfl ?_
        refine WM.o GOk.no hS10 (fun w0 hS0 => o_nilCk rfl) ?_
        refine WM.o GOk.no hS10 (fun w0 hS0 => o_fldAddr fo50_0 rfl) ?_
        refine WM.o GOk.no hS10 (fun w0 hS0 => o_ld sh3 rfl (Bc hS0 st9.cells.1)) ?_
        refine WM.p hS10 rfl ?_
        refine WM.nil ?_
        refine WC.condD rfl (fun hc47 => ?_) (fun hc47 => ?_)
        · -- t47 = true
          refine WC.seq ?_
          refine WC.region ?_
          refine WL.pure rfl ?_
          refine WL.call GOk.no F7 rfl (lsm_Flush_calls base g mb limit _ ls w10 ⟨_, _, _, htl, st10⟩ (Nat.le_trans hbase hW10.size) (by omega) (by omega)) ?_
          rintro e w11 ⟨v11, rfl, hv11, hB11, hs11⟩; refine ⟨_, rfl, ?_⟩
          have hW11 : Below base w w11 := hW10.trans hB11
          have hx11 := hs11
          refine WL.pure rfl ?_
          refine WL.nil ?_
          refine WC.retn (Ret1 rfl ⟨_, rfl, hv11, hW11, fun _ => ⟨by omega, hs11⟩, fun _ _ _ h => absurd h (by omega)⟩)
        · -- t47 = false
          refine WC.skip ?_
          refine WC.seq ?_
          refine WC.region ?_
          refine WL.pure rfl ?_
          refine WL.nil ?_
          refine WC.retn (Ret1 rfl ⟨_, rfl, rfl, hW10, fun _ => ⟨by omega, .inl ⟨_, _, _, htl, st10⟩⟩, fun _ _ _ h => ⟨rfl, _, _, _, htl, st10⟩⟩)
end Go.Proofs.YtfgbplbohekghaaDoor
