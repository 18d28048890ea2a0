/- audit.Merge. -/
import Derived.Test.YtfgbplbohekghaaCode
import Derived.Test.YtfgbplbohekghaaTy
import Derived.Test.YtfgbplbohekghaaRowX
import Derived.Test.YtfgbplbohekghaaLine
import Derived.Test.YtfgbplbohekghaaLinesF
import Derived.Test.YtfgbplbohekghaaConcat
import Derived.Test.YtfgbplbohekghaaFind
set_option linter.unusedVariables false
set_option maxRecDepth 2000
namespace Go.Proofs.Ytfgbplbohekghaa
open Go.Wl Go.RowKit

theorem o_lookNone {P : Program} {n : Nat} {s : Sl} {ds : List Deferred} {w : World} {K : TypeId} {κ α : Type} {k : KeyK P K κ} {r : VRep α} {ok : Nat → Prop} {t E : TypeId} {z : Value} {b : Nat} {m : List (κ × α)} {x y : Operand} {q : κ} (hn : getM k m q = none) (hu : P.underlying t = some (.map K E)) (hz : zeroOf P E = some z) (hx : Wl.val s x = some (.map (some b))) (hy : Wl.val s y = some (k.enc q)) (hm : MapAt k r ok w b m) :
    Op1 P n s ds w (.lookup t x y false) z := by
  obtain ⟨v, h, hc⟩ := o_look (n := n) (ds := ds) hu hz hx hy hm
  rcases hc with ⟨_, rfl⟩ | ⟨u, h1, _⟩
  · exact h
  · rw [hn] at h1; cases h1
theorem getM_new {P : Program} {K : TypeId} {κ α : Type} (k : KeyK P K κ) : ∀ (m : List (κ × α)) (x : κ), x ∉ m.map (·.1) → getM k m x = none
  | [], _, _ => rfl
  | p :: m, x, h => by
    simp only [List.map_cons, List.mem_cons, not_or] at h
    simp only [getM]
    rw [if_neg h.1]
    exact getM_new k m x h.2
theorem rowLL {w : World} {g : Nat} {A B : Option Addr} {c c' : Nat} {a b : List Line} {t : TypeId} {ok : Nat → Prop} (hb : Box w g #[.slice A a.length c, .slice B b.length c'] t) (h1 : Row rLine ok w A a) (h2 : Row rLine ok w B b) (hg : ok g) (hc : a.length ≤ c) (hc' : b.length ≤ c') :
    Row rLL ok w (some ⟨g, 0, none⟩) [a, b] := by
  refine ⟨by simp, fun _ => ⟨_, rfl, hg, fun i x hi => ?_⟩⟩
  have hat := hb.at_
  match i, hi with
  | 0, hi => cases hi; exact ⟨_, ⟨_, rfl, A, c, rfl, hc, h1⟩, fun j u hu => by
      cases j with
      | zero => cases hu; exact hat 0 _ rfl
      | succ j => cases hu⟩
  | 1, hi => cases hi; exact ⟨_, ⟨_, rfl, B, c', rfl, hc', h2⟩, fun j u hu => by
      cases j with
      | zero => cases hu; exact hat 1 _ rfl
      | succ j => cases hu⟩
def fromLine (x : Line) : ByteArray × List Int := (x.key, x.nums)
theorem to_from (l : List Line) : (l.map fromLine).map toLine = l := by
  rw [List.map_map]
  have e : toLine ∘ fromLine = id := funext fun x => rfl
  rw [e, List.map_id]
theorem sorted_eq {L xs : List Line} (hp : xs.Perm L) (hs : xs.Pairwise (fun a b => ¬ blt b.key a.key)) (hg : Good L) : xs = L := by
  refine List.Perm.eq_of_pairwise (le := fun a b => ¬ blt b.key a.key) ?_ hs ?_ hp
  · intro a b ha hb h1 h2
    have ha' := hp.mem_iff.1 ha
    obtain ⟨i, hi, rfl⟩ := List.getElem_of_mem ha'
    obtain ⟨j, hj, rfl⟩ := List.getElem_of_mem hb
    have : i = j := hg.inj i j hi hj (by
      rcases blt_total L[i].key L[j].key with h | h | h
      · exact absurd h h2
      · exact h
      · exact absurd h h1)
    subst this; rfl
  · rw [List.pairwise_iff_getElem]
    intro i j hi hj hij h
    exact blt_asymm h (hg.slt i j hij hj)
theorem Good.new {L : List Line} (hg : Good L) (k : Nat) (hk : k < L.length) : L[k].key ∉ ((L.take k).map fromLine).map (·.1) := by
  intro h
  rw [List.map_map] at h
  obtain ⟨x, hx, e⟩ := List.mem_map.1 h
  obtain ⟨i, hi, rfl⟩ := List.getElem_of_mem hx
  rw [List.length_take] at hi
  rw [List.getElem_take] at e
  have : i = k := hg.inj i k (by omega) hk e
  omega
theorem audit_Merge_calls {ok ok' : Nat → Prop} (A B : Option Addr) (c c' : Nat) (a b : List Line) (w : World) (ha : Row rLine ok w A a) (hb : Row rLine ok' w B b) (hc : a.length ≤ c) (hc' : b.length ≤ c') (hga : Good a) (hgb : Good b) (hg : Good (a ++ b)) : Calls Try.prog 6 #[.slice A a.length c, .slice B b.length c'] w fun e w' => ∃ A' c'' ok'', e = .returned (.tuple #[.slice A' (a ++ b).length c'', .nilIface]) ∧ (a ++ b).length ≤ c'' ∧ Row rLine ok'' w' A' (a ++ b) ∧ Below w.heap.size w w' := by
  refine enter F6 rfl rfl ?_
  refine WC.seq ?_
  refine WC.region ?_
  refine WL.pure rfl ?_
  refine WL.pure rfl ?_
  refine WL.nil ?_
  refine WC.seq ?_
  refine WC.seq ?_
  refine WC.region ?_
  refine WL.pure rfl ?_
  refine WL.pure rfl ?_
  refine WL.call GOk.no F9 rfl (audit_both_calls A B c c' a b w ha hb) ?_
  rintro e w1 ⟨v, rfl, hv, hn, hB1⟩; refine ⟨_, rfl, ?_⟩
  have hW1 : Below w.heap.size w w1 := B2 (Below.refl _ _) hB1
  refine WL.pure rfl ?_
  refine WL.nil ?_
  refine WC.seq ?_
  refine WC.region ?_
  refine WL.pure rfl ?_
  refine WL.neNil GOk.no Try.underlying24 rfl hv ?_
  refine WL.nil ?_
  refine WC.cond rfl (fun hc15 => ?_) (fun hc15 => ?_)
  · exact absurd hc15 (by rw [show nilB v = true from hn.2 ⟨hga, hgb⟩]; simp)
  · -- t15 = false
    refine WC.skip ?_
    refine WC.seq ?_
    refine WC.region ?_
    refine WL.mkMap kStr vInts (fun c => w1.heap.size < c ∧ c < w1.heap.size + 1) GOk.no fun w2 hg2 hm2 hz2 => ?_
    have hW2 : Below w.heap.size w w2 := Bg hW1 hg2
    refine WL.pure rfl ?_
    refine WL.nil ?_
    refine WC.seq ?_
    refine WC.seq ?_
    refine WC.region ?_
    refine WL.pure rfl ?_
    refine WL.pure rfl ?_
    refine WL.bldS (e := 22) (cs := #[.slice A a.length c, .slice B b.length c']) GOk.no rfl (by kernel_rfl) fun w3 hg3 hb3 hz3 => ?_
    have hW3 : Below w.heap.size w w3 := Bg hW2 hg3
    have hok3 : ∀ c, c < w.heap.size → c < w3.heap.size ∧ c ≠ w1.heap.size := fun c h => ⟨Nat.lt_of_lt_of_le h hW3.size, fun e => by have := hW1.size; omega⟩
    have hcon := concat_calls (ok := fun c => c < w3.heap.size ∧ c ≠ w1.heap.size) (some ⟨w2.heap.size, 0, none⟩) 2 [a, b] w3 (rowLL hb3 (Brow (by decide) hW3 (ha.mono (by decide) fun c _ hl => hok3 c hl)) (Brow (by decide) hW3 (hb.mono (by decide) fun c _ hl => hok3 c hl)) ⟨by omega, by omega⟩ hc hc') (by have h1 := hga.1; have h2 := hgb.1; unfold sumL; simp; omega) (fun c h => h.1)
    have hfl : [a, b].flatten = a ++ b := by simp
    rw [hfl] at hcon
    refine WL.call GOk.no F12 rfl hcon ?_
    rintro e w4 ⟨v4, rfl, ho4, hB4⟩; refine ⟨_, rfl, ?_⟩
    have hW4 : Below w.heap.size w w4 := B2 hW3 hB4
    obtain ⟨A4, c4, rfl, hc4, hrow4⟩ := ho4.slv
    have hbm : w1.heap.size < w4.heap.size := by have := hB4.size; omega
    have hrow4' : Row rLine (fun c => c ≠ w1.heap.size) w4 A4 (a ++ b) := hrow4.mono (by decide) fun c h _ => by
      rcases h with h | h
      · exact h.2
      · have := ho4.bge c h.symm; omega
    have hm4 : MapAt kStr vInts (fun c => w1.heap.size < c ∧ c < w4.heap.size) w4 w1.heap.size (((a ++ b).take 0).map fromLine) := ((hm2.step hg3 (by simp) (fun c _ => by simp)).move (hB4.block _ (by omega)) (fun c _ hl => hB4.block c hl)).mono fun c h _ => ⟨h.1, by omega⟩
    refine WL.lenS GOk.no Try.underlying22 rfl ?_
    refine WL.pure rfl ?_
    refine WL.nil ?_
    refine WC.block ?_
    refine WC.loop (σ := Nat) (fun k => [(4, .slice none 0 0), (5, .nilIface), (7, .map (some w1.heap.size)), (21, .slice A4 (a ++ b).length c4), (22, .int .i64 ((a ++ b).length : Int)), (23, .int .i64 (k : Int))])
      (fun k w' => k ≤ (a ++ b).length ∧ MapAt kStr vInts (fun c => w1.heap.size < c ∧ c < w'.heap.size) w' w1.heap.size (((a ++ b).take k).map fromLine) ∧ Row rLine (fun c => c ≠ w1.heap.size) w' A4 (a ++ b) ∧ Below w.heap.size w w') (fun k => (a ++ b).length - k) 0 ⟨by omega, hm4, hrow4', hW4⟩ (.cons rfl (.cons rfl (.cons rfl (.cons rfl (.cons rfl (.cons rfl (.nil _))))))) ?_
    rintro k w' ⟨hk, hmap, hrowL, hB⟩
    have hl400 := hg.1
    have hbmw : w1.heap.size < w'.heap.size := hmap.lt
    refine WC.seq ?_
    refine WC.region ?_
    refine WL.pure rfl ?_
    refine WL.nil ?_
    refine WC.seq ?_
    refine WC.condD rfl (fun hc24 => ?_) (fun hc24 => ?_)
    · -- t24 = true
      refine WC.skip ?_
      refine WC.seq ?_
      refine WC.block ?_
      refine WC.seq ?_
      refine WC.region ?_
      have hka : k < (a ++ b).length := by omega
      obtain ⟨ad, A', c1, rfl, hat, hc1, hrowN⟩ := hrowL.line k hka
      have hnew := getM_new kStr _ _ (hg.new k hka)
      refine WL.idxAddr GOk.no el22 rfl rfl (by omega) (by omega) ?_
      refine WL.ldAgg GOk.no sh29 rfl rfl hat ?_
      refine WL.alloc GOk.no ze29 fun w5 hg5 hb5 hz5 => ?_
      have hW5 : Below w.heap.size w w5 := Bg hB hg5
      refine WL.stAll GOk.no sh29 rfl rfl hb5 rfl rfl (by simp [Value.cells, Value.oneCell']) fun w6 hg6 hz6 hb6 => ?_
      have hW6 : Below w.heap.size w w6 := Br hW5 hg6 (hB.size)
      refine WL.nil ?_
      have h6 : Below w'.heap.size w' w6 := Br (below_gb hg5) hg6 (Nat.le_refl _)
      have hm6 : ∀ w0, Below w6.heap.size w6 w0 → MapAt kStr vInts (fun c => w1.heap.size < c ∧ c < w'.heap.size) w0 w1.heap.size (((a ++ b).take k).map fromLine) := fun w0 h => hmap.move ((B2 h6 h).block _ hbmw) (fun c _ hl => (B2 h6 h).block c hl)
      refine WC.mix (Below w6.heap.size w6) (by kernel_rfl) fun w7 hg7 hh7 => ?_
      have hW7 : Below w.heap.size w w7 := Bg hW6 hg7
      have hS7 : Below w6.heap.size w6 w7 := below_gb hg7
      have hb9_1 := Box.step hb6 hg7 (by simp)
      refine WM.p hS7 rfl ?_
      refine WM.o GOk.no hS7 (fun w0 hS0 => o_fldAddr fo29_0 rfl) ?_
      refine WM.o GOk.no hS7 (fun w0 hS0 => o_ld sh9 rfl (Bc hS0 ((hb6.cell 0).trans rfl))) ?_
      refine WM.p hS7 rfl ?_
      refine WM.o GOk.no hS7 (fun w0 hS0 => o_fldAddr fo29_0 rfl) ?_
      refine WM.o GOk.no hS7 (fun w0 hS0 => o_ld sh9 rfl (Bc hS0 ((hb6.cell 0).trans rfl))) ?_
      refine WM.o GOk.no hS7 (fun w0 hS0 => o_lookNone hnew Try.underlying40 ze27 rfl rfl (hm6 w0 hS0)) ?_
      refine WM.o GOk.no hS7 (fun w0 hS0 => o_fldAddr fo29_1 rfl) ?_
      refine WM.o GOk.no hS7 (fun w0 hS0 => o_ld sh27 rfl (Bc hS0 ((hb6.cell 1).trans rfl))) ?_
      refine WM.e ?_
      refine WL.app (r := rInt) (v := .slice none 0 0) (xs := []) (ys := (a ++ b)[k].nums) (by decide) GOk.no el27 rfl (by decide) rfl rfl (Own.nil rInt 3 w7.heap.size (fun _ => False) w7) (show RowE rInt _ w7 A' _ from (Brow (by decide) (B2 h6 hS7) hrowN).e) (Nat.le_refl _) (by have := (hg.2 k hka).1; simp only [List.length_nil]; omega) fun v8 w8 ho8 hg8 hx8 => ?_
      have hS8 : Below w6.heap.size w6 w8 := B2 hS7 (below_gb hg8)
      refine WL.nil ⟨hS8, ?_⟩
      refine WM.z ?_
      have h8 : Below w'.heap.size w' w8 := B2 h6 hS8
      have hm8 : MapAt kStr vInts (fun c => w1.heap.size < c ∧ c < w8.heap.size) w8 w1.heap.size (((a ++ b).take k).map fromLine) := (hm6 w8 hS8).mono fun c h hl => ⟨h.1, hl⟩
      have hv8 : vInts.V (fun c => w1.heap.size < c ∧ c < w8.heap.size) w8 (a ++ b)[k].nums v8 := ⟨v8, rfl, ho8.slv.mono (by decide) fun c h hl => ⟨by
        rcases h with h | h
        · exact h.elim
        · have := ho8.bge c h.symm; have := h6.size; have := hS7.size; omega, hl⟩⟩
      refine WL.upd GOk.no Try.underlying40 rfl rfl rfl hm8 hv8 (fun h => Nat.lt_irrefl _ h.1) fun w9 hg9 hz9 hm9 => ?_
      refine WL.nil ?_
      refine WM.nil ?_
      have hW9 : Below w.heap.size w w9 := Br (Bg hW7 hg8) hg9 hW1.size
      have hm9' : MapAt kStr vInts (fun c => w1.heap.size < c ∧ c < w9.heap.size) w9 w1.heap.size (((a ++ b).take (k + 1)).map fromLine) := by
        rw [setM_new hnew] at hm9
        rw [hz9, List.take_succ_eq_append_getElem hka, List.map_append]
        exact hm9
      have hrow9 : Row rLine (fun c => c ≠ w1.heap.size) w9 (some ad) (a ++ b) := hrowL.move (by decide) fun c h hl => (hg9.block c (Nat.lt_of_lt_of_le hl h8.size) (fun e => h (by simpa using e))).trans (h8.block c hl)
      refine WC.region ?_
      refine WL.addI GOk.no rfl rfl (in_i64 (by omega) (by omega)) ?_
      refine WL.pure rfl ?_
      refine WL.nil ?_
      refine ⟨rfl, k + 1, (.cons rfl (.cons rfl (.cons rfl (.cons rfl (.cons rfl (.cons rfl (.nil _))))))), ⟨by omega, hm9', hrow9, hW9⟩, by omega⟩
    · -- t24 = false
      obtain rfl : k = (a ++ b).length := by omega
      rw [List.take_length] at hmap
      refine WC.exit rfl ?_
      refine WC.seq ?_
      refine WC.region ?_
      refine WL.pure rfl ?_
      refine WL.call GOk.no F13 rfl (denLines_calls w1.heap.size ((a ++ b).map fromLine) w' hmap (fun c h => h.2) (by simp at hl400 ⊢; omega)) ?_
      rintro e w10 ⟨v10, xs', rfl, hp10, hpw10, ho10, hB10⟩; refine ⟨_, rfl, ?_⟩
      have hW10 : Below w.heap.size w w10 := B2 hB hB10
      rw [to_from] at hp10
      obtain rfl := sorted_eq hp10 hpw10 hg
      obtain ⟨A10, c10, rfl, hc10, hrow10⟩ := ho10.slv
      refine WL.pure rfl ?_
      refine WL.nil ?_
      refine WC.seq ?_
      refine WC.seq ?_
      refine WC.region ?_
      refine WL.pure rfl ?_
      refine WL.call GOk.no F5 rfl (audit_Check_calls A10 c10 (a ++ b) w10 hrow10) ?_
      rintro e w11 ⟨v11, rfl, hv11, hn11, hB11⟩; refine ⟨_, rfl, ?_⟩
      have hW11 : Below w.heap.size w w11 := B2 hW10 hB11
      refine WL.neNil GOk.no Try.underlying24 rfl hv11 ?_
      refine WL.nil ?_
      refine WC.cond rfl (fun hc42 => ?_) (fun hc42 => ?_)
      · exact absurd hc42 (by rw [show nilB v11 = true from hn11.2 hg]; simp)
      · -- t42 = false
        refine WC.skip ?_
        refine WC.seq ?_
        refine WC.region ?_
        refine WL.pure rfl ?_
        refine WL.pure rfl ?_
        refine WL.pure rfl ?_
        refine WL.nil ?_
        refine WC.retn (Ret2 rfl rfl ⟨A10, c10, _, rfl, hc10, Brow (by decide) hB11 hrow10, hW11⟩)
end Go.Proofs.Ytfgbplbohekghaa
