/- audit.Judge, where one line lacks its end. -/
import Derived.Test.YtfgbplbohekghaaCode
import Derived.Test.YtfgbplbohekghaaTy
import Derived.Test.YtfgbplbohekghaaRowX
import Derived.Test.YtfgbplbohekghaaLine
import Derived.Test.YtfgbplbohekghaaMerge
import Derived.Test.YtfgbplbohekghaaFind
import Derived.Test.YtfgbplbohekghaaLineF
import Derived.Test.YtfgbplbohekghaaStr2
set_option linter.unusedVariables false
set_option maxRecDepth 2000
namespace Go.Proofs.Ytfgbplbohekghaa
open Go.Wl Go.RowKit Go.Sort

theorem Own.shape {α : Type} {r : Rep α} {e : TypeId} {base : Nat} {ok : Nat → Prop} {w : World} {v : Value} {xs : List α} (h : Own r e base ok w v xs) (hn : xs ≠ []) : ∃ g cap, v = .slice (some ⟨g, 0, none⟩) xs.length cap ∧ base ≤ g := by
  obtain ⟨cs, ⟨_, ho⟩, _⟩ := h
  rcases ho with ⟨_, h0⟩ | ⟨g, cap, cur, hv, hb, _⟩
  · exact absurd (List.length_eq_zero_iff.1 h0) hn
  · exact ⟨g, cap, hv, hb⟩
theorem compact_len {α : Type} [Inhabited α] [DecidableEq α] (zs : List α) : (Lib.compact zs).length ≤ zs.length := by
  unfold Lib.compact Lib.compactUpTo
  rw [List.length_map]
  exact Nat.le_trans (List.length_filter_le _ _) (by simp)
theorem bytesOf_inj {a b : ByteArray} (h : bytesOf a = bytesOf b) : a = b := data_inj.1 h
theorem sortStr_calls {e : TypeId} {w : World} {g cap : Nat} {zs : List (List UInt8)} (h : StrBlk e w g cap zs) (hl : zs.length ≤ 1000000000) :
    Calls Try.prog 15 #[.slice (some ⟨g, 0, none⟩) zs.length cap] w fun en w' => en = .returned (.tuple #[]) ∧ StrBlk e w' g cap (zs.mergeSort fun x y => decide (x ≤ y)) ∧ w.grownBy w' (some g) :=
  (Go.Proofs.Try.slices_Sort_string g 0 cap zs w h.holds h.lt (by omega)).mono fun en w' ⟨he, n, os, hw⟩ => ⟨he, by rw [hw]; exact h.put (by simp), by rw [hw]; exact grownBy_sorted _⟩
theorem compactStr_calls {e : TypeId} {w : World} {g cap : Nat} {zs : List (List UInt8)} (h : StrBlk e w g cap zs) (hl : zs.length ≤ 1000000000) :
    Calls Try.prog 16 #[.slice (some ⟨g, 0, none⟩) zs.length cap] w fun en w' => en = .returned (.slice (some ⟨g, 0, none⟩) (Lib.compact zs).length cap) ∧ (∀ i (hi : i < (Lib.compact zs).length), w'.cell? ((⟨g, 0, none⟩ : Addr).add (i * 1)) = some (encStr (Lib.compact zs)[i])) ∧ w.grownBy w' (some g) := by
  have hcap : zs.length ≤ cap := by obtain ⟨cur, _, h1, _⟩ := h; exact h1
  refine (Go.Proofs.Try.slices_Compact_string g 0 cap zs w h.holds (by omega) hcap).mono ?_
  rintro en w' ⟨he, q, rfl⟩
  have hlen := compact_len zs
  have e1 : putRow encStr (Sort.ahead w q) g 0 (Lib.compact zs ++ List.replicate (zs.length - (Lib.compact zs).length) []).toArray = grow (putRow encStr (Sort.ahead w q) g 0 (Lib.compact zs ++ List.replicate (zs.length - (Lib.compact zs).length) []).toArray) #[] := (grow_empty _).symm
  have hb : StrBlk e (grow (putRow encStr (Sort.ahead w q) g 0 (Lib.compact zs ++ List.replicate (zs.length - (Lib.compact zs).length) []).toArray) #[]) g cap _ := h.put (by simp; omega)
  refine ⟨he, fun i hi => ?_, ?_⟩
  · have h2 := hb.cell i (by simp; omega)
    rw [← e1, List.getElem_append_left hi] at h2
    exact h2
  · rw [e1]; exact grownBy_sorted _
theorem audit_Judge_calls {ok ok' : Nat → Prop} (A B : Option Addr) (c c' : Nat) (a b : List Line) (w : World) (ha : Row rLine ok w A a) (hb : Row rLine ok' w B b) (hc : a.length ≤ c) (hc' : b.length ≤ c') (hga : Good a) (hgb : Good b) (p : Nat) (hp : p < a.length) (hlen : b.length = a.length) (hkey : ∀ i (h : i < a.length), (b[i]'(by omega)).key = a[i].key) (hoth : ∀ i (h : i < a.length), i ≠ p → (b[i]'(by omega)).nums = a[i].nums) (hsh : (b[p]'(by omega)).nums = a[p].nums.take (b[p]'(by omega)).nums.length) (hlt : (b[p]'(by omega)).nums.length < a[p].nums.length) : Calls Try.prog 8 #[.slice A a.length c, .slice B b.length c'] w fun e w' => e = .returned (.tuple #[.int .i64 1, .string a[p].key, .int .i64 ((b[p]'(by omega)).nums.length : Int), .nilIface]) ∧ Below w.heap.size w w' := by
  refine enter F8 rfl rfl ?_
  refine WC.seq ?_
  refine WC.region ?_
  refine WL.pure rfl ?_
  refine WL.pure rfl ?_
  refine WL.pure rfl ?_
  refine WL.pure rfl ?_
  refine WL.nil ?_
  refine WC.seq ?_
  refine WC.seq ?_
  refine WC.region ?_
  refine WL.pure rfl ?_
  refine WL.pure rfl ?_
  refine WL.call GOk.no F9 rfl (audit_both_calls A B c c' a b w ha hb) ?_
  rintro e w1 ⟨v, rfl, hv, hn, hB1⟩; refine ⟨_, rfl, ?_⟩
  have hW1 : Below w.heap.size w w1 := B2 (Below.refl _ _) hB1
  refine WL.pure rfl ?_
  refine WL.nil ?_
  refine WC.seq ?_
  refine WC.region ?_
  refine WL.pure rfl ?_
  refine WL.neNil GOk.no Try.underlying24 rfl hv ?_
  refine WL.nil ?_
  refine WC.cond rfl (fun hc18 => ?_) (fun hc18 => ?_)
  · exact absurd hc18 (by rw [show nilB v = true from hn.2 ⟨hga, hgb⟩]; simp)
  · -- t18 = false
    refine WC.skip ?_
    refine WC.seq ?_
    refine WC.region ?_
    refine WL.pure rfl ?_
    refine WL.nil ?_
    refine WC.seq ?_
    refine WC.seq ?_
    refine WC.region ?_
    refine WL.pure rfl ?_
    refine WL.pure rfl ?_
    refine WL.bldS (e := 22) (cs := #[.slice A a.length c, .slice B b.length c']) GOk.no rfl (by kernel_rfl) fun w2 hg2 hb2 hz2 => ?_
    have hW2 : Below w.heap.size w w2 := Bg hW1 hg2
    have hok2 : ∀ c, c < w.heap.size → c < w2.heap.size := fun c h => Nat.lt_of_lt_of_le h hW2.size
    have hcon := concat_calls (ok := fun c => c < w2.heap.size) (some ⟨w1.heap.size, 0, none⟩) 2 [a, b] w2 (rowLL hb2 (Brow (by decide) hW2 (ha.mono (by decide) fun c _ hl => hok2 c hl)) (Brow (by decide) hW2 (hb.mono (by decide) fun c _ hl => hok2 c hl)) (by omega) hc hc') (by have h1 := hga.1; have h2 := hgb.1; unfold sumL; simp; omega) (fun c h => h)
    have hfl : [a, b].flatten = a ++ b := by simp
    rw [hfl] at hcon
    refine WL.call GOk.no F12 rfl hcon ?_
    rintro e w3 ⟨v3, rfl, ho3, hB3⟩; refine ⟨_, rfl, ?_⟩
    have hW3 : Below w.heap.size w w3 := B2 hW2 hB3
    obtain ⟨A3, c3, rfl, hc3, hrow3⟩ := ho3.slv
    have hrow3' : Row rLine (fun c => c < w3.heap.size) w3 A3 (a ++ b) := hrow3.mono (by decide) fun c h hl => hl
    have h800 : (a ++ b).length ≤ 800 := by have h1 := hga.1; have h2 := hgb.1; simp; omega
    refine WL.lenS GOk.no Try.underlying22 rfl ?_
    refine WL.pure rfl ?_
    refine WL.nil ?_
    refine WC.block ?_
    refine WC.loop (σ := Nat × Value) (fun y =>  [(0, .slice A a.length c), (1, .slice B b.length c'), (4, .int .i64 0), (5, .string { data := #[] }), (6, .int .i64 0), (7, .nilIface), (9, y.2), (23, .slice A3 (a ++ b).length c3), (24, .int .i64 ((a ++ b).length : Int)), (25, .int .i64 (y.1 : Int))])
      (fun y w' => y.1 ≤ (a ++ b).length ∧ Own rStr 9 w3.heap.size (fun _ => False) w' y.2 (((a ++ b).take y.1).map Line.key) ∧ Row rLine (fun c => c < w3.heap.size) w' A3 (a ++ b) ∧ w3.heap.size ≤ w'.heap.size ∧ Below w.heap.size w w') (fun y => (a ++ b).length - y.1) (0, .slice none 0 0) ⟨Nat.zero_le _, Own.nil _ _ _ _ _, hrow3', Nat.le_refl _,  hW3⟩ (.cons rfl (.cons rfl (.cons rfl (.cons rfl (.cons rfl (.cons rfl (.cons rfl (.cons rfl (.cons rfl (.cons rfl (.nil _))))))))))) ?_
    rintro ⟨k, v⟩ w' ⟨hk, hown, hrowL, hge, hB⟩
    dsimp only at hk hown
    have hW3s := hW3.size
    refine WC.seq ?_
    refine WC.region ?_
    refine WL.pure rfl ?_
    refine WL.nil ?_
    refine WC.seq ?_
    refine WC.condD rfl (fun hc26 => ?_) (fun hc26 => ?_)
    · -- t26 = true
      refine WC.skip ?_
      refine WC.seq ?_
      refine WC.block ?_
      refine WC.seq ?_
      refine WC.region ?_
      have hka : k < (a ++ b).length := by dsimp only at hc26; omega
      obtain ⟨ad, A', c1, rfl, hat, hc1, hrowN⟩ := hrowL.line k hka
      refine WL.idxAddr GOk.no el22 rfl rfl (by omega) (by omega) ?_
      refine WL.ldAgg GOk.no sh29 rfl rfl hat ?_
      refine WL.alloc GOk.no ze29 fun w4 hg4 hb4 hz4 => ?_
      have hW4 : Below w.heap.size w w4 := Bg hB hg4
      refine WL.stAll GOk.no sh29 rfl rfl hb4 rfl rfl (by simp [Value.cells, Value.oneCell']) fun w5 hg5 hz5 hb5 => ?_
      have hW5 : Below w.heap.size w w5 := Br hW4 hg5 (hB.size)
      refine WL.nil ?_
      refine WC.region ?_
      refine WL.pure rfl ?_
      refine WL.fldAddr GOk.no fo29_0 rfl ?_
      refine WL.ld GOk.no sh9 rfl ((hb5.cell 0).trans rfl) ?_
      refine WL.bldS (e := 9) (cs := #[.string (a ++ b)[k].key]) GOk.no rfl (by kernel_rfl) fun w6 hg6 hb6 hz6 => ?_
      have hW6 : Below w.heap.size w w6 := Bg hW5 hg6
      have hb11_1 := Box.step hb5 hg6 (by simp)
      have h6 : Below w'.heap.size w' w6 := Bg (Br (below_gb hg4) hg5 (Nat.le_refl _)) hg6
      have hown6 : Own rStr 9 w3.heap.size (fun _ => False) w6 v (((a ++ b).take k).map Line.key) := hown.move (fun j hj => h6.block j (hown.blt j hj)) (fun c hc => hc.elim)
      refine WL.app (r := rStr) (ys := [(a ++ b)[k].key]) (by decide) GOk.no el44 rfl (by decide) rfl rfl hown6 (RowE.box (cs := [.string (a ++ b)[k].key]) hb6 (Reps.one rfl rfl)) (by have := h6.size; omega) (by simp only [List.length_map, List.length_take, List.length_cons, List.length_nil]; omega) fun v7 w7 ho7 hg7 hx7 => ?_
      refine WL.pure rfl ?_
      refine WL.nil ?_
      have hW7 : Below w.heap.size w w7 := hW6.grown hg7 hW6.size (fun j hj => by have := hown.bge j hj; omega)
      have hrow7 : Row rLine (fun c => c < w3.heap.size) w7 (some ad) (a ++ b) := hrowL.move (by decide) fun c h hl => (hg7.block c (Nat.lt_of_lt_of_le hl h6.size) (fun e => by have := hown.bge c e.symm; omega)).trans (h6.block c hl)
      refine WC.region ?_
      refine WL.addI GOk.no rfl rfl (in_i64 (by omega) (by omega)) ?_
      refine WL.pure rfl ?_
      refine WL.nil ?_
      refine ⟨rfl, (k + 1, v7),  (.cons rfl (.cons rfl (.cons rfl (.cons rfl (.cons rfl (.cons rfl (.cons rfl (.cons rfl (.cons rfl (.cons rfl (.nil _))))))))))), ⟨by dsimp only; omega, by dsimp only; rw [List.take_succ_eq_append_getElem hka, List.map_append]; exact ho7, hrow7, by have := hg7.size; have := h6.size; omega, hW7⟩, by dsimp only; omega⟩
    · -- t26 = false
      obtain rfl : k = (a ++ b).length := by dsimp only at hc26; omega
      rw [List.take_length] at hown
      have hne : (a ++ b).map Line.key ≠ [] := fun e => by have h1 := congrArg List.length e; simp at h1; have h2 := h1.1; rw [h2] at hp; simp at hp
      obtain ⟨g, cap, rfl, hgb'⟩ := Own.shape hown hne
      have hblk := hown.blk
      obtain ⟨zs, hzs⟩ : ∃ zs, zs = ((a ++ b).map Line.key).map bytesOf := ⟨_, rfl⟩
      rw [← hzs] at hblk
      have hzl : zs.length = ((a ++ b).map Line.key).length := by rw [hzs, List.length_map]
      have hz800 : zs.length ≤ 800 := by rw [hzl, List.length_map]; exact h800
      have hsort := sortStr_calls hblk (by omega)
      rw [hzl] at hsort
      refine WC.exit rfl ?_
      refine WC.seq ?_
      refine WC.region ?_
      refine WL.pure rfl ?_
      refine WL.call GOk.no F15 rfl (hsort) ?_
      rintro e w8 ⟨rfl, hblk8, hg8⟩; refine ⟨_, rfl, ?_⟩
      have hW8 : Below w.heap.size w w8 := Br hB hg8 (by omega)
      refine WL.nil ?_
      refine WC.seq ?_
      have hms : (zs.mergeSort fun x y => decide (x ≤ y)).length = ((a ++ b).map Line.key).length := by simp [hzl]
      have hcomp := compactStr_calls hblk8 (by rw [hms, ← hzl]; omega)
      rw [hms] at hcomp
      obtain ⟨ys, hys⟩ : ∃ ys, ys = Lib.compact (zs.mergeSort fun x y => decide (x ≤ y)) := ⟨_, rfl⟩
      rw [← hys] at hcomp
      have hymem : ∀ y, y ∈ ys ↔ y ∈ zs := fun y => by rw [hys, compact_mem]; exact (List.mergeSort_perm _ _).mem_iff
      have hyl : ys.length ≤ 800 := by rw [hys]; have := compact_len (zs.mergeSort fun x y => decide (x ≤ y)); rw [hms, ← hzl] at this; omega
      have hzmem : ∀ y, y ∈ zs → ∃ i, ∃ h : i < a.length, y = bytesOf a[i].key := fun y hy => by
        rw [hzs] at hy
        obtain ⟨q, hq, rfl⟩ := List.mem_map.1 hy
        obtain ⟨x, hx, rfl⟩ := List.mem_map.1 hq
        rcases List.mem_append.1 hx with hx | hx
        · obtain ⟨i, hi, rfl⟩ := List.getElem_of_mem hx
          exact ⟨i, hi, rfl⟩
        · obtain ⟨i, hi, rfl⟩ := List.getElem_of_mem hx
          exact ⟨i, by omega, by rw [hkey i (by omega)]⟩
      have hzp : bytesOf a[p].key ∈ zs := by
        rw [hzs]
        exact List.mem_map_of_mem (List.mem_map_of_mem (List.mem_append_left _ (List.getElem_mem hp)))
      refine WC.seq ?_
      refine WC.region ?_
      refine WL.pure rfl ?_
      refine WL.call GOk.no F16 rfl (hcomp) ?_
      rintro e w9 ⟨rfl, hcell9, hg9⟩; refine ⟨_, rfl, ?_⟩
      have hW9 : Below w.heap.size w w9 := Br hW8 hg9 (by omega)
      refine WL.lenS GOk.no Try.underlying44 rfl ?_
      refine WL.pure rfl ?_
      refine WL.nil ?_
      refine WC.block ?_
      refine WC.loop (σ := Nat) (fun k => [(0, .slice A a.length c), (1, .slice B b.length c'), (4, .int .i64 0), (5, .string { data := #[] }), (6, .int .i64 0), (7, .nilIface), (38, .slice (some ⟨g, 0, none⟩) ys.length cap), (39, .int .i64 (ys.length : Int)), (40, .int .i64 (k : Int))])
        (fun k w' => k ≤ ys.length ∧ (∀ j (h : j < ys.length), j < k → ys[j] ≠ bytesOf a[p].key) ∧ (∀ j (h : j < ys.length), w'.cell? ((⟨g, 0, none⟩ : Addr).add (j * 1)) = some (encStr ys[j])) ∧ Below w.heap.size w w') (fun k => ys.length - k) 0 ⟨by omega, fun j _ h => absurd h (by omega), hcell9, hW9⟩ (.cons rfl (.cons rfl (.cons rfl (.cons rfl (.cons rfl (.cons rfl (.cons rfl (.cons rfl (.cons rfl (.nil _)))))))))) ?_
      rintro k w' ⟨hk, hno, hcell, hB⟩
      refine WC.seq ?_
      refine WC.region ?_
      refine WL.pure rfl ?_
      refine WL.nil ?_
      refine WC.seq ?_
      refine WC.condD rfl (fun hc41 => ?_) (fun hc41 => ?_)
      · -- t41 = true
        refine WC.skip ?_
        refine WC.seq ?_
        refine WC.block ?_
        refine WC.seq ?_
        refine WC.region ?_
        have hky : k < ys.length := by omega
        obtain ⟨i, hi, hyi⟩ := hzmem ys[k] ((hymem _).1 (List.getElem_mem hky))
        have hck : w'.cell? ((⟨g, 0, none⟩ : Addr).add (k * 1)) = some (.string a[i].key) := by rw [hcell k hky, hyi, encStr_bytes]
        have hib : i < b.length := by omega
        refine WL.idxAddr GOk.no el44 rfl rfl (by omega) (by omega) ?_
        refine WL.ld GOk.no sh9 rfl hck ?_
        refine WL.pure rfl ?_
        refine WL.nil ?_
        refine WC.seq ?_
        refine WC.region ?_
        refine WL.pure rfl ?_
        refine WL.pure rfl ?_
        refine WL.call GOk.no F18 rfl (audit_find_calls A c a w' (Brow (by decide) hB ha) hga i hi w' (Below.refl _ _) (Brow (by decide) hB ha)) ?_
        rintro e w10 ⟨ad1, c1, rfl, hc1, hrow1, hB10⟩; refine ⟨_, rfl, ?_⟩
        have hW10 : Below w.heap.size w w10 := B2 hB hB10
        have hf2 := audit_find_calls B c' b w10 (Brow (by decide) hW10 hb) hgb i hib w10 (Below.refl _ _) (Brow (by decide) hW10 hb)
        rw [hkey i hi] at hf2
        refine WL.pure rfl ?_
        refine WL.pure rfl ?_
        refine WL.call GOk.no F18 rfl (hf2) ?_
        rintro e w11 ⟨ad2, c2, rfl, hc2, hrow2, hB11⟩; refine ⟨_, rfl, ?_⟩
        have hW11 : Below w.heap.size w w11 := B2 hW10 hB11
        have hle : b[i].nums.length ≤ a[i].nums.length := by
          by_cases e : i = p
          · subst e; omega
          · rw [hoth i hi e]; exact Nat.le_refl _
        have hsame : b[i].nums = a[i].nums.take b[i].nums.length := by
          by_cases e : i = p
          · subst e; exact hsh
          · rw [hoth i hi e, List.take_length]
        refine WL.call GOk.no F17 rfl (audit_line_calls ad1 (some ad2) c1 c2 a[i].nums b[i].nums w11 (Brow (by decide) (B2 hB10 hB11) hrow1) (Brow (by decide) hB11 hrow2) hle hsame) ?_
        rintro e w12 ⟨rfl, hB12⟩; refine ⟨_, rfl, ?_⟩
        have hW12 : Below w.heap.size w w12 := B2 hW11 hB12
        refine WL.pure rfl ?_
        refine WL.pure rfl ?_
        refine WL.pure rfl ?_
        refine WL.pure rfl ?_
        refine WL.pure rfl ?_
        refine WL.nil ?_
        refine WC.seq ?_
        refine WC.region ?_
        refine WL.pure rfl ?_
        refine WL.pure rfl ?_
        refine WL.nil ?_
        refine WC.condN rfl (fun hc55 => ?_) (fun hc55 => ?_)
        · -- t55 = true
          have hip : i = p := by
            refine Classical.byContradiction fun e => hc55 ?_
            rw [if_neg (by rw [hoth i hi e]; omega)]
          subst hip
          refine WC.seq ?_
          refine WC.region ?_
          refine WL.pure rfl ?_
          refine WL.pure rfl ?_
          refine WL.pure rfl ?_
          refine WL.pure rfl ?_
          refine WL.pure rfl ?_
          refine WL.pure rfl ?_
          refine WL.pure rfl ?_
          refine WL.nil ?_
          refine WC.retn (Ret4 rfl rfl rfl rfl ⟨by show Ending.returned (.tuple #[.int .i64 (if b[i].nums.length < a[i].nums.length then 1 else 0), .string a[i].key, .int .i64 (if b[i].nums.length < a[i].nums.length then b[i].nums.length else 0), .nilIface]) = _; rw [if_pos hlt, if_pos hlt], hW12⟩)
        · -- t55 = false
          have hnl : ¬ b[i].nums.length < a[i].nums.length := fun h => by rw [if_pos h] at hc55; cases hc55
          have hip : i ≠ p := fun e => by subst e; exact hnl hlt
          have e4 : (Value.int .i64 (if b[i].nums.length < a[i].nums.length then 1 else 0)) = .int .i64 0 := by rw [if_neg hnl]
          have e6 : (Value.int .i64 (if b[i].nums.length < a[i].nums.length then b[i].nums.length else 0)) = .int .i64 0 := by rw [if_neg hnl]
          have hno' : ∀ j (h : j < ys.length), j < k + 1 → ys[j] ≠ bytesOf a[p].key := fun j h hj => by
            by_cases e : j = k
            · subst e; rw [hyi]; exact fun e => hip (hga.inj i p hi hp (bytesOf_inj e))
            · exact hno j h (by omega)
          have hcell12 : ∀ j (h : j < ys.length), w12.cell? ((⟨g, 0, none⟩ : Addr).add (j * 1)) = some (encStr ys[j]) := fun j h => Bc (B2 (B2 hB10 hB11) hB12) (hcell j h)
          refine WC.skip ?_
          refine WC.region ?_
          refine WL.addI GOk.no rfl rfl (in_i64 (by omega) (by omega)) ?_
          refine WL.pure rfl ?_
          refine WL.nil ?_
          refine ⟨rfl, k + 1, (.cons rfl (.cons rfl (.cons (by rw [← e4]; rfl) (.cons rfl (.cons (by rw [← e6]; rfl) (.cons rfl (.cons rfl (.cons rfl (.cons rfl (.nil _)))))))))), ⟨by omega, hno', hcell12, hW12⟩, by omega⟩
      · -- t41 = false
        exfalso
        obtain ⟨j, hj, hje⟩ := List.getElem_of_mem ((hymem _).2 hzp)
        exact hno j hj (by omega) hje
end Go.Proofs.Ytfgbplbohekghaa
