/- The store's calls, told by what it tells. -/
import Derived.Test.YtfgbplbohekghaaDoorView
import Derived.Test.YtfgbplbohekghaaDoorPutDel
import Derived.Test.YtfgbplbohekghaaDoorLive
import Derived.Test.YtfgbplbohekghaaDoorNew
import Derived.Test.YtfgbplbohekghaaDoorGet
import Derived.Test.YtfgbplbohekghaaDoorRowX
set_option linter.unusedVariables false
namespace Go.Proofs.YtfgbplbohekghaaDoor
open Go.Wl Go.RowKit

theorem St.nodup {base g mb : Nat} {limit : Int} {w : World} {m : MapL} {ls : List (List Ent)} (h : St base g mb limit w m ls) : (m.map (·.1)).Nodup ∧ keyed m := by
  obtain ⟨vt, vl, ts, _, st⟩ := h
  exact ⟨st.map.nodup, st.key⟩
theorem St.new {base g : Nat} {limit : Int} {w : World} (hb : Box w (g + 1) #[.int .i64 limit, .map (some g), .slice none 0 0, .slice none 0 0] 50) (hm : MapAt kStrE vEnt (fun _ => False) w g []) (hg : base ≤ g) : St base (g + 1) g limit w [] [] :=
  ⟨_, _, [], rfl, { box := hb, ot := Own.nil _ _ _ _ _, ol := Own.nil _ _ _ _ _, map := hm, hg := by omega, hm := hg, ne := by omega, t1 := by simp [Value.ownBlock], t2 := by simp [Value.ownBlock], l1 := by simp [Value.ownBlock], l2 := by simp [Value.ownBlock], tl := fun k h => by simp [Value.ownBlock] at h, key := fun _ h => by cases h }⟩
theorem get_view {base g mb : Nat} {limit : Int} {w : World} {m : MapL} {ls : List (List Ent)} (h : St base g mb limit w m ls) (hml : m.length + (ls.map List.length).sum ≤ 900) (hll : ls.length ≤ 900) (key : ByteArray) (e : Ent) (hv : view m ls key = some e) (hk : e.key = key) :
    Calls Tryd.prog 6 #[.pointer (some ⟨g, 0, none⟩), .string key] w fun r w' => ((e.dead = false ∧ r = .returned (.tuple #[.string e.value, .nilIface])) ∨ (e.dead = true ∧ ∃ s, r = .returned (.tuple #[.string s, .iface 41 (.int .i64 6)]))) ∧ Below w.heap.size w w' := by
  obtain ⟨hn, hkd⟩ := h.nodup
  obtain ⟨vt, vl, ts, htl, st⟩ := h
  obtain ⟨Al, cl, hvl, _, hrowl⟩ := st.ol.slv
  have hc3 := st.cells.2.2.2
  rw [hvl] at hc3
  refine (lsm_Store__Get_calls g mb m Al cl ls key w st.cells.2.1 hc3 st.map st.key hrowl (by omega) (by omega)).mono ?_
  rintro r w' ⟨ns, xs, hp, hx, hr, hB⟩
  have hmem := mem_all hn hkd hp hx
  subst hk
  have he := (hmem e).2 hv
  refine ⟨?_, hB⟩
  rcases hr with ⟨i, hi, rfl, h1, h2⟩ | ⟨⟨s, rfl⟩, h1⟩
  · have h3 := (hmem xs[i]).1 (List.getElem_mem hi)
    rw [h1, hv] at h3
    cases h3
    exact .inl ⟨h2, rfl⟩
  · obtain ⟨i, hi, rfl⟩ := List.getElem_of_mem he
    exact .inr ⟨h1 i hi rfl, s, rfl⟩

theorem new_good (limit : Int) (w : World) : Calls Tryd.prog 4 #[.int .i64 limit] w fun e w' => ∃ pv ev, e = .returned (.tuple #[pv, ev]) ∧ isIf ev = true ∧ ((nilB ev = false ∧ (limit < 1 ∨ 400 < limit)) ∨ (nilB ev = true ∧ 1 ≤ limit ∧ limit ≤ 400 ∧ pv = .pointer (some ⟨w.heap.size + 1, 0, none⟩) ∧ ∀ base, base ≤ w.heap.size → St base (w.heap.size + 1) w.heap.size limit w' [] [])) ∧ Below w.heap.size w w' := by
  refine (lsm_New_calls limit w).mono ?_
  rintro e w' ⟨h, hB⟩
  rcases h with ⟨v, rfl, h1, h2, h3⟩ | ⟨rfl, h1, h2, h3, h4⟩
  · exact ⟨_, _, rfl, h1, .inl ⟨h2, h3⟩, hB⟩
  · exact ⟨_, _, rfl, rfl, .inr ⟨rfl, h1, h2, rfl, fun base hb => St.new h3 h4 hb⟩, hB⟩
def KF (l : List ByteArray) (i : Nat) : ByteArray := l.getD i ByteArray.empty
theorem rowK {w : World} {A : Option Addr} {l : List ByteArray} {ok : Nat → Prop} (h : Row rStr ok w A l) (i : Nat) (hi : i < l.length) : ∃ ad, A = some ad ∧ w.cell? (ad.add (i * 1)) = some (.string (KF l i)) := by
  obtain ⟨ad, h1, h2⟩ := h.str i hi
  refine ⟨ad, h1, ?_⟩
  have : KF l i = l[i] := by simp [KF, List.getD, hi]
  rw [this]; exact h2
/-- The store holds what the first i puts wrote. -/
def Good (base g mb : Nat) (limit : Int) (K V : Nat → ByteArray) (w : World) (i c : Nat) : Prop := ∃ m ls, St base g mb limit w m ls ∧ (∀ q, view m ls q = lastV K V i q) ∧ m.length + (ls.map List.length).sum ≤ i ∧ ls.length ≤ c
theorem Good.below {base g mb : Nat} {limit : Int} {K V : Nat → ByteArray} {w w' : World} {i c : Nat} (h : Good base g mb limit K V w i c) (hB : Below w.heap.size w w') : Good base g mb limit K V w' i c := by
  obtain ⟨m, ls, h1, h2⟩ := h
  exact ⟨m, ls, h1.below hB, h2⟩
theorem Good.more {base g mb : Nat} {limit : Int} {K V : Nat → ByteArray} {w : World} {i c c' : Nat} (h : Good base g mb limit K V w i c) (hc : c ≤ c') : Good base g mb limit K V w i c' := by
  obtain ⟨m, ls, h1, h2, h3, h4⟩ := h
  exact ⟨m, ls, h1, h2, h3, by omega⟩
theorem lens_perm {m : MapL} {xs : List Ent} (h : xs.Perm (m.map (·.2))) : xs.length = m.length := by rw [h.length_eq, List.length_map]
theorem put_good {base g mb : Nat} {limit : Int} {K V : Nat → ByteArray} {w : World} {i c : Nat} (h : Good base g mb limit K V w i c) (hbase : base ≤ w.heap.size) (hi : i < 40) (hc : c ≤ 200) :
    Calls Tryd.prog 5 #[.pointer (some ⟨g, 0, none⟩), .string (K i), .string (V i)] w fun e w' => ∃ v, e = .returned v ∧ isIf v = true ∧ Below base w w' ∧ (nilB v = true → Good base g mb limit K V w' (i + 1) (c + 1)) := by
  obtain ⟨m, ls, h1, h2, h3, h4⟩ := h
  refine (lsm_Store__Put_calls base g mb limit m ls (K i) (V i) w h1 hbase (by omega) (by omega) (by omega)).mono ?_
  rintro e w' ⟨v, rfl, hv, hB, hs, _⟩
  refine ⟨v, rfl, hv, hB, fun hn => ?_⟩
  have hv2 : ∀ q, view (setM kStrE m (K i) ⟨K i, V i, false⟩) ls q = lastV K V (i + 1) q := fun q => by
    rw [view_set, h2]
    simp only [lastV]
    by_cases hq : q = K i
    · rw [if_pos hq, if_pos hq, hq]
    · rw [if_neg hq, if_neg hq]
  have hl := setM_len kStrE m (K i) (⟨K i, V i, false⟩ : Ent)
  rcases (hs hn).2 with hs | ⟨xs, hp, hs⟩
  · exact ⟨_, ls, hs, hv2, by omega, by omega⟩
  · have hnd : ((setM kStrE m (K i) (⟨K i, V i, false⟩ : Ent)).map (·.1)).Nodup ∧ keyed (setM kStrE m (K i) ⟨K i, V i, false⟩) := by
      obtain ⟨hn1, hk1⟩ := h1.nodup
      refine ⟨?_, fun p hp => ?_⟩
      · cases hg : getM kStrE m (K i) with
        | none =>
          rw [setM_new hg, List.map_append, List.nodup_append]
          refine ⟨hn1, by simp, fun a ha b hb e => ?_⟩
          simp at hb
          subst hb; subst e
          exact getM_none hg ha
        | some y => rw [setM_keys hg]; exact hn1
      · rcases setM_mem kStrE m (K i) (⟨K i, V i, false⟩ : Ent) p hp with rfl | h
        · rfl
        · exact hk1 p h
    refine ⟨[], xs :: ls, hs, fun q => ?_, ?_, by simp; omega⟩
    · rw [view_flush hnd.1 hnd.2 hp, hv2]
    · have := lens_perm hp
      simp only [List.length_nil, List.map_cons, List.sum_cons]; omega
theorem flush_good {base g mb : Nat} {limit : Int} {K V : Nat → ByteArray} {w : World} {i c : Nat} (h : Good base g mb limit K V w i c) (hbase : base ≤ w.heap.size) (hi : i ≤ 40) (hc : c ≤ 200) :
    Calls Tryd.prog 7 #[.pointer (some ⟨g, 0, none⟩)] w fun e w' => ∃ v, e = .returned v ∧ Below base w w' ∧ Good base g mb limit K V w' i (c + 1) := by
  obtain ⟨m, ls, h1, h2, h3, h4⟩ := h
  refine (lsm_Flush_calls base g mb limit m ls w h1 hbase (by omega) (by omega)).mono ?_
  rintro e w' ⟨v, rfl, hv, hB, hs⟩
  refine ⟨v, rfl, hB, ?_⟩
  rcases hs with hs | ⟨xs, hp, hs⟩
  · exact ⟨m, ls, hs, h2, h3, by omega⟩
  · obtain ⟨hn1, hk1⟩ := h1.nodup
    refine ⟨[], xs :: ls, hs, fun q => ?_, ?_, by simp; omega⟩
    · rw [view_flush hn1 hk1 hp, h2]
    · have := lens_perm hp
      simp only [List.length_nil, List.map_cons, List.sum_cons]; omega
theorem compact_good {base g mb : Nat} {limit : Int} {K V : Nat → ByteArray} {w : World} {i c : Nat} (h : Good base g mb limit K V w i c) (hbase : base ≤ w.heap.size) (hi : i ≤ 40) (hc : c ≤ 200) :
    Calls Tryd.prog 8 #[.pointer (some ⟨g, 0, none⟩)] w fun e w' => ∃ v, e = .returned v ∧ Below base w w' ∧ Good base g mb limit K V w' i (c + 1) := by
  obtain ⟨m, ls, h1, h2, h3, h4⟩ := h
  obtain ⟨hn1, hk1⟩ := h1.nodup
  have hlive : ∀ ns : List Ent, ns.Perm (m.map (·.2)) → ∀ x ∈ (mixAll (ns :: ls)).map (·.2), x.dead = false := fun ns hp x hx => by
    have h5 := (mem_all hn1 hk1 hp (List.Perm.refl _) x).1 hx
    rw [h2] at h5
    exact (lastV_live K V i _ _ h5).1
  refine (lsm_Store__Compact_calls base g mb limit m ls w h1 hbase (by omega) (by omega) (by omega) hlive).mono ?_
  rintro e w' ⟨v, rfl, hB, hs⟩
  refine ⟨v, rfl, hB, ?_⟩
  rcases hs with hs | ⟨ns, xs, hp, hx, hs⟩
  · exact ⟨m, ls, hs, h2, h3, by omega⟩
  · refine ⟨[], _, hs, fun q => ?_, ?_, ?_⟩
    · rw [view_compact hn1 hk1 hp hx, h2]
    · have h5 := hx.length_eq
      have h6 := mixAll_len (ns :: ls)
      have h7 := lens_perm hp
      simp only [List.length_map, List.map_cons, List.sum_cons] at h5 h6
      split
      · simp
      · simp; omega
    · split <;> simp
/-- Behind the Del. -/
def GoodD (base g mb : Nat) (limit : Int) (K V : Nat → ByteArray) (gone : ByteArray) (w : World) (n : Nat) : Prop := ∃ m ls, St base g mb limit w m ls ∧ (∀ q, view m ls q = if q = gone then some ⟨gone, { data := #[] }, true⟩ else lastV K V n q) ∧ m.length + (ls.map List.length).sum ≤ 900 ∧ ls.length ≤ 900
theorem GoodD.below {base g mb : Nat} {limit : Int} {K V : Nat → ByteArray} {gone : ByteArray} {w w' : World} {i : Nat} (h : GoodD base g mb limit K V gone w i) (hB : Below w.heap.size w w') : GoodD base g mb limit K V gone w' i := by
  obtain ⟨m, ls, h1, h2⟩ := h
  exact ⟨m, ls, h1.below hB, h2⟩
theorem del_good {base g mb : Nat} {limit : Int} {K V : Nat → ByteArray} {w : World} {i c : Nat} (gone : ByteArray) (h : Good base g mb limit K V w i c) (hbase : base ≤ w.heap.size) (hi : i ≤ 40) (hc : c ≤ 200) :
    Calls Tryd.prog 9 #[.pointer (some ⟨g, 0, none⟩), .string gone] w fun e w' => ∃ v, e = .returned v ∧ isIf v = true ∧ Below base w w' ∧ (nilB v = true → GoodD base g mb limit K V gone w' i) := by
  obtain ⟨m, ls, h1, h2, h3, h4⟩ := h
  refine (lsm_Store__Del_calls base g mb limit m ls gone w h1 hbase (by omega) (by omega) (by omega)).mono ?_
  rintro e w' ⟨v, rfl, hv, hB, hs⟩
  refine ⟨v, rfl, hv, hB, fun hn => ?_⟩
  have hv2 : ∀ q, view (setM kStrE m gone ⟨gone, { data := #[] }, true⟩) ls q = if q = gone then some ⟨gone, { data := #[] }, true⟩ else lastV K V i q := fun q => by
    rw [view_set, h2]
  have hl := setM_len kStrE m gone (⟨gone, { data := #[] }, true⟩ : Ent)
  rcases hs hn with hs | ⟨xs, hp, hs⟩
  · exact ⟨_, ls, hs, hv2, by omega, by omega⟩
  · have hnd : ((setM kStrE m gone (⟨gone, { data := #[] }, true⟩ : Ent)).map (·.1)).Nodup ∧ keyed (setM kStrE m gone ⟨gone, { data := #[] }, true⟩) := by
      obtain ⟨hn1, hk1⟩ := h1.nodup
      refine ⟨?_, fun p hp => ?_⟩
      · cases hg : getM kStrE m gone with
        | none =>
          rw [setM_new hg, List.map_append, List.nodup_append]
          refine ⟨hn1, by simp, fun a ha b hb e => ?_⟩
          simp at hb
          subst hb; subst e
          exact getM_none hg ha
        | some y => rw [setM_keys hg]; exact hn1
      · rcases setM_mem kStrE m gone (⟨gone, { data := #[] }, true⟩ : Ent) p hp with rfl | h
        · rfl
        · exact hk1 p h
    refine ⟨[], xs :: ls, hs, fun q => ?_, ?_, by simp; omega⟩
    · rw [view_flush hnd.1 hnd.2 hp, hv2]
    · have := lens_perm hp
      simp only [List.length_nil, List.map_cons, List.sum_cons]; omega
theorem get_good {base g mb : Nat} {limit : Int} {K V : Nat → ByteArray} {gone : ByteArray} {w : World} {n : Nat} (h : GoodD base g mb limit K V gone w n) (key value : ByteArray) (hk : key ≠ gone → lastV K V n key = some ⟨key, value, false⟩) :
    Calls Tryd.prog 6 #[.pointer (some ⟨g, 0, none⟩), .string key] w fun r w' => ∃ s v, r = .returned (.tuple #[.string s, v]) ∧ ((key = gone ∧ v = .iface 41 (.int .i64 6)) ∨ (key ≠ gone ∧ s = value ∧ v = .nilIface)) ∧ Below w.heap.size w w' := by
  obtain ⟨m, ls, h1, h2, h3, h4⟩ := h
  by_cases hg : key = gone
  · have hv : view m ls key = some ⟨gone, { data := #[] }, true⟩ := by rw [h2, if_pos hg]
    refine (get_view h1 h3 h4 key _ hv hg.symm).mono ?_
    rintro r w' ⟨hr, hB⟩
    rcases hr with ⟨h5, _⟩ | ⟨_, s, rfl⟩
    · cases h5
    · exact ⟨s, _, rfl, .inl ⟨hg, rfl⟩, hB⟩
  · have hv : view m ls key = some ⟨key, value, false⟩ := by rw [h2, if_neg hg]; exact hk hg
    refine (get_view h1 h3 h4 key _ hv rfl).mono ?_
    rintro r w' ⟨hr, hB⟩
    rcases hr with ⟨_, rfl⟩ | ⟨h5, _⟩
    · exact ⟨value, .nilIface, rfl, .inr ⟨hg, rfl, rfl⟩, hB⟩
    · cases h5
end Go.Proofs.YtfgbplbohekghaaDoor
