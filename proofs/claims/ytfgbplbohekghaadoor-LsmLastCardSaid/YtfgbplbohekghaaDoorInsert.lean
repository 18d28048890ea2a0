/- slices.Insert of one at the front, at rows of slices. -/
import Derived.Test.YtfgbplbohekghaaDoorCode
import Derived.Test.YtfgbplbohekghaaDoorTy
import Derived.Test.YtfgbplbohekghaaDoorRowX
import Derived.Test.YtfgbplbohekghaaDoorL13
import Derived.Test.YtfgbplbohekghaaDoorEntry
set_option linter.unusedVariables false
set_option maxRecDepth 2000
namespace Go.Proofs.YtfgbplbohekghaaDoor
open Go.Wl Go.RowKit

def rLE : Rep (List Ent) := rEnt.sl (by decide)
/-- Any slice. -/
def rAnyS : Rep Unit := {
  sz := 1
  R := fun _ _ _ cs => ∃ A n c, cs = [.slice A n c]
  len := fun ⟨A, n, c, h⟩ => by rw [h]; rfl
  one := fun ⟨A, n, c, h⟩ u hu => by rw [h] at hu; simp at hu; rw [hu]; rfl
  move := fun h _ => h
  mono := fun h _ => h
  }
theorem insB_calls {base : Nat} {ok : Nat → Prop} (v : Value) (xs : List Unit) (x : Unit) (u : Value) (gv : Nat) (w : World) (hv : Own rAnyS 42 base ok w v xs) (hb : Box w gv #[u] 42) (hx : rAnyS.R (fun b => ok b ∧ some b ≠ v.ownBlock) w x [u]) (hgv : some gv ≠ v.ownBlock) (hbase : base ≤ w.heap.size) (hlen : xs.length ≤ 1000) :
    Calls Tryd.prog 16 #[v, .int .i64 0, .slice (some ⟨gv, 0, none⟩) 1 1] w fun e w' => ∃ v1, e = .returned v1 ∧ Own rAnyS 42 base ok w' v1 (x :: xs) ∧ w.grownBy w' v.ownBlock ∧ (v1.ownBlock = v.ownBlock ∨ ∃ k, v1.ownBlock = some k ∧ w.heap.size ≤ k) := by
  have hgu : u.oneCell' = true := rAnyS.one hx u (by simp)
  obtain ⟨A0, n0, c0, hvs, hn0, hc0⟩ : ∃ A n c, v = .slice A n c ∧ n = xs.length ∧ n ≤ c := by
    rcases own_open rfl hv with ⟨rfl, rfl⟩ | ⟨g, cap, cur, cs, rfl, _, _, hc1, _⟩
    · exact ⟨_, _, _, rfl, rfl, Nat.le_refl _⟩
    · exact ⟨_, _, _, rfl, rfl, hc1⟩
  have hv0 := hv
  rw [hvs] at hv0 hgv hx ⊢
  refine enter F16 rfl rfl ?_
  refine WC.seq ?_
  refine WC.region ?_
  refine WL.pure rfl ?_
  refine WL.nil ?_
  refine WC.seq ?_
  refine WC.region ?_
  refine WL.pure rfl ?_
  refine WL.pure rfl ?_
  refine WL.cut 0 n0 GOk.no el45 rfl rfl rfl (.inr ⟨_, _, rfl, by omega, rfl⟩) (.inl ⟨rfl, rfl⟩) (by omega) (by omega) ?_
  refine WL.nil ?_
  refine WC.seq ?_
  refine WC.region ?_
  refine WL.pure rfl ?_
  refine WL.lenS GOk.no Tryd.underlying45 rfl ?_
  refine WL.pure rfl ?_
  refine WL.nil ?_
  refine WC.seq ?_
  refine WC.seq ?_
  refine WC.region ?_
  refine WL.pure rfl ?_
  refine WL.pure rfl ?_
  refine WL.nil ?_
  refine WC.condF rfl rfl ?_
  refine WC.skip ?_
  refine WC.seq ?_
  refine WC.region ?_
  refine WL.pure rfl ?_
  refine WL.lenS GOk.no Tryd.underlying45 rfl ?_
  refine WL.pure rfl ?_
  refine WL.nil ?_
  refine WC.seq ?_
  refine WC.seq ?_
  refine WC.region ?_
  refine WL.pure rfl ?_
  refine WL.pure rfl ?_
  refine WL.pure rfl ?_
  refine WL.nil ?_
  refine WC.condD rfl (fun hc22 => ?_) (fun hc22 => ?_)
  · -- at the end
    have h0 : xs = [] := List.length_eq_zero_iff.1 (by omega)
    subst h0
    refine WC.seq ?_
    refine WC.region ?_
    refine WL.pure rfl ?_
    refine WL.pure rfl ?_
    have hrow : RowE rAnyS (fun b => (fun b => ok b) b ∧ some b ≠ (Value.slice A0 n0 c0).ownBlock) w (some ⟨gv, 0, none⟩) [x] := RowE.box (cs := [u]) hb (Reps.one hx rfl)
    refine WL.app (r := rAnyS) (ys := [x]) (by decide) GOk.no el45 rfl (by decide) rfl rfl hv0 hrow hbase (by simp) fun v1 w1 ho1 hg1 hx1 => ?_
    refine WL.pure rfl ?_
    refine WL.nil ?_
    refine WC.retn (Ret1 rfl ⟨_, rfl, by simpa using ho1, hg1, ?_⟩)
    rcases hx1 with hx1 | hx1
    · exact .inl hx1
    · exact .inr ⟨_, hx1, Nat.le_refl _⟩
  · -- at the front
    have hne : xs.length ≠ 0 := by omega
    rcases own_open rfl hv0 with ⟨_, h0⟩ | ⟨g, cap, cur, cs, hve, hbg, hbox, hc1, hc2, hcs, htk, hcl, hreps⟩
    · rw [h0] at hne; exact absurd rfl hne
    obtain ⟨rfl, rfl, rfl⟩ : A0 = some ⟨g, 0, none⟩ ∧ n0 = xs.length ∧ c0 = cap := by injection hve with h1 h2 h3; exact ⟨h1, h2, h3⟩
    have hgg : gv ≠ g := fun e => hgv (by rw [e]; rfl)
    have hmax : c0 ≤ 9223372036854775807 := by simp only [maxLen] at hc2; exact hc2
    have hone : ∀ c ∈ cs, c.oneCell' = true := fun c hc => by
      obtain ⟨i, hi, rfl⟩ := List.getElem_of_mem hc
      refine rAnyS.one (hreps.2 i xs[i] (List.getElem?_eq_getElem (by omega))) _ ?_
      rw [List.mem_iff_getElem?]
      exact ⟨0, by rw [List.getElem?_take_of_lt (by omega), List.getElem?_drop]; simp [hi]⟩
    have hat : At w ⟨g, 0, none⟩ cs := fun i y hy => hbox.at_ i y (by
      rw [← htk] at hy
      have hi := (List.getElem?_eq_some_iff.1 hy).1
      rwa [List.getElem?_take_of_lt (by rw [List.length_take] at hi; omega)] at hy)
    refine WC.skip ?_
    refine WC.seq ?_
    refine WC.seq ?_
    refine WC.region ?_
    refine WL.pure rfl ?_
    refine WL.pure rfl ?_
    refine WL.addE (c := ((xs.length + 1 : Nat) : Int)) GOk.no rfl rfl (by omega) (in_i64 (by omega) (by omega)) ?_
    refine WL.pure rfl ?_
    refine WL.capS GOk.no Tryd.underlying45 rfl ?_
    refine WL.pure rfl ?_
    refine WL.nil ?_
    refine WC.condD rfl (fun hc31 => ?_) (fun hc31 => ?_)
    · -- no room
      refine WC.seq ?_
      refine WC.region ?_
      refine WL.pure rfl ?_
      refine WL.pure rfl ?_
      refine WL.cutE (A' := some ⟨g, 0, none⟩) (m' := 0) (c' := c0) 0 0 GOk.no el45 rfl rfl rfl (.inl ⟨rfl, rfl⟩) (.inr ⟨_, _, rfl, by omega, rfl⟩) (by omega) (by omega) (cutAddr_zero _ _ _) rfl rfl ?_
      refine WL.pure rfl ?_
      refine WL.pure rfl ?_
      refine WL.addE (c := ((xs.length + 1 : Nat) : Int)) GOk.no rfl rfl (by omega) (in_i64 (by omega) (by omega)) ?_
      refine WL.pure rfl ?_
      refine WL.subE (c := ((xs.length + 1 : Nat) : Int)) GOk.no rfl rfl (by omega) (in_i64 (by omega) (by omega)) ?_
      refine WL.appMake' GOk.no el45 rfl (by decide) Tryd.underlying3 rfl rfl (by omega) (by omega) (by omega) fun cap cur1 w1 hcap1 hcap2 hg1 hb1 hs1 hz1 => ?_
      have hmax1 : cap ≤ 9223372036854775807 := by simp only [maxLen] at hcap2; exact hcap2
      have hs1' : cur1.size = cap := by rw [hs1, Nat.mul_one]
      refine WL.pure rfl ?_
      refine WL.nil ?_
      refine WC.seq ?_
      refine WC.region ?_
      refine WL.pure rfl ?_
      refine WL.pure rfl ?_
      refine WL.cutE (A' := some ⟨w.heap.size, 0, none⟩) (m' := xs.length + 1) (c' := cap) 0 (xs.length + 1) GOk.no el45 rfl rfl rfl (.inr ⟨_, _, rfl, by omega, rfl⟩) (.inl ⟨rfl, rfl⟩) (by omega) (by omega) (cutAddr_zero _ _ _) rfl rfl ?_
      refine WL.pure rfl ?_
      have hat1 : At w1 ⟨gv, 0, none⟩ [u] := (hb.step hg1 (by simp)).at_
      refine WL.copy [u] GOk.no el45 rfl rfl hb1 hat1 (by simp) (by simp; omega) (by simpa using hgu) fun w2 hg2 hz2 hb2 => ?_
      refine WL.nil ?_
      refine WC.seq ?_
      refine WC.mix (fun _ => True) (by kernel_rfl) fun w3 hg3 hh3 => ?_
      refine WM.p trivial rfl ?_
      refine WM.p trivial rfl ?_
      refine WM.p trivial rfl ?_
      refine WM.o GOk.no trivial (fun w0 hS0 => addI_e (c := 1) rfl rfl rfl (in_i64 (by omega) (by omega))) ?_
      refine WM.o GOk.no trivial (fun w0 hS0 => o_cutE (A' := some ⟨w.heap.size, 1, none⟩) (m' := xs.length) (c' := cap - 1) 1 (xs.length + 1) el45 rfl rfl rfl (.inr ⟨_, _, rfl, by omega, rfl⟩) (.inl ⟨rfl, rfl⟩) (by omega) (by omega) (cutAddr_some _ _ _ _ _ (by omega)) rfl rfl) ?_
      refine WM.p trivial rfl ?_
      refine WM.p trivial rfl ?_
      refine WM.o GOk.no trivial (fun w0 hS0 => o_cutE (A' := some ⟨g, 0, none⟩) (m' := xs.length) (c' := c0) 0 xs.length el45 rfl rfl rfl (.inr ⟨_, _, rfl, by omega, rfl⟩) (.inl ⟨rfl, rfl⟩) (by omega) (by omega) (cutAddr_zero _ _ _) rfl rfl) ?_
      refine WM.z ?_
      have hglt := hbox.lt
      have hat3 : At w3 ⟨g, 0, none⟩ cs := ((hat.step hg1 (by simp)).step hg2 (by simp; omega)).step hg3 (by simp)
      have hb3 : Box w3 w.heap.size (putAt cur1 0 [u]) 42 := hb2.step hg3 (by simp)
      refine WL.copy cs GOk.no el45 rfl rfl hb3 hat3 (by simp [hcl]) (by rw [size_putAt (by simp; omega)]; omega) hone fun w4 hg4 hz4 hb4 => ?_
      refine WL.nil ?_
      refine WM.nil ?_
      have hgAll : w.grownBy w4 (some w.heap.size) := gb_trans (gb_none hg1 _) (gb_trans hg2 (gb_trans (gb_none hg3 _) hg4))
      have hgW : w.grownBy w4 (some g) := gb_none (gb_of_below ⟨hgAll.os, hgAll.tape, hgAll.output, hgAll.size, fun i hi => hgAll.block i hi (by simp; omega)⟩) _
      refine WC.seq ?_
      refine WC.region ?_
      refine WL.pure rfl ?_
      refine WL.pure rfl ?_
      refine WL.nil ?_
      refine WC.retn (Ret1 rfl ⟨_, rfl, own_close (r := rAnyS) rfl (cs := u :: cs) (by simp) hbase hb4 (by simp; omega) hcap2 (by rw [size_putAt (by rw [size_putAt (by simp; omega)]; omega), size_putAt (by simp; omega)]; exact hs1') ?_ ?_, hgW, .inr ⟨_, rfl, Nat.le_refl _⟩⟩)
      · simp only [putAt, List.length_cons, List.length_nil, Nat.zero_add, List.take_zero, List.nil_append, List.cons_append, List.take_succ_cons, List.take_zero, List.length_cons]
        rw [← hcl]; simp
      · refine Reps.append (xs := [x]) (ys := xs) (cs := [u]) (c := cs) (Reps.one ?_ rfl) ?_
        · exact rAnyS.move (rAnyS.mono hx (ok' := fun b => ok b ∧ some b ≠ some w.heap.size) fun b hb hl => ⟨hb.1, by simp; omega⟩) fun b hb hl => hgAll.block b hl hb.2
        · exact hreps.imp fun y c hy => rAnyS.move (rAnyS.mono hy (ok' := fun b => ok b ∧ some b ≠ some w.heap.size) fun b hb hl => ⟨hb.1, by simp; omega⟩) fun b hb hl => hgAll.block b hl hb.2
    · -- room
      refine WC.skip ?_
      refine WC.seq ?_
      refine WC.region ?_
      refine WL.pure rfl ?_
      refine WL.pure rfl ?_
      refine WL.pure rfl ?_
      refine WL.addE (c := ((xs.length + 1 : Nat) : Int)) GOk.no rfl rfl (by omega) (in_i64 (by omega) (by omega)) ?_
      refine WL.cutE (A' := some ⟨g, 0, none⟩) (m' := xs.length + 1) (c' := c0) 0 (xs.length + 1) GOk.no el45 rfl rfl rfl (.inl ⟨rfl, rfl⟩) (.inr ⟨_, _, rfl, by omega, by omega⟩) (by omega) (by omega) (cutAddr_zero _ _ _) rfl rfl ?_
      refine WL.pure rfl ?_
      refine WL.nil ?_
      refine WC.seq ?_
      refine WC.seq ?_
      refine WC.region ?_
      refine WL.pure rfl ?_
      refine WL.pure rfl ?_
      refine WL.pure rfl ?_
      refine WL.pure rfl ?_
      refine WL.addE (c := 1) GOk.no rfl rfl rfl (in_i64 (by omega) (by omega)) ?_
      refine WL.cutE (A' := some ⟨g, 1, none⟩) (m' := xs.length) (c' := c0 - 1) 1 (xs.length + 1) GOk.no el45 rfl rfl rfl (.inr ⟨_, _, rfl, by omega, rfl⟩) (.inl ⟨rfl, rfl⟩) (by omega) (by omega) (cutAddr_some _ _ _ _ _ (by omega)) rfl rfl ?_
      have hov : (callFunc 30 #[.slice (some ⟨gv, 0, none⟩) 1 1, .slice (some ⟨g, 1, none⟩) xs.length (c0 - 1)]).run Tryd.prog w = .ok (.value (.bool false)) w := by
        rw [run_callFunc_extern Tryd.func30 (by kernel_rfl) (by kernel_rfl) (by kernel_rfl) (e := Extern.SlicesOverlaps.overlaps #[45, 45] #[4]) (by kernel_rfl),
          Lib.run_overlaps_apart w 45 4 42 Tryd.underlying45 1 (fun w => (run_isAgg sh42).2) ⟨gv, 0, none⟩ ⟨g, 1, none⟩ 1 1 xs.length (c0 - 1) hgg _ _ _ _ (Box.shape hb) (Box.shape hbox) (by omega) (hb.frozen _) (hb.frozen _)]
        rfl
      refine WL.callX GOk.no rfl hov ?_
      refine WL.pure rfl ?_
      refine WL.nil ?_
      refine WC.condT rfl rfl ?_
      refine WC.seq ?_
      refine WC.mix (fun _ => True) (by kernel_rfl) fun w3 hg3 hh3 => ?_
      refine WM.p trivial rfl ?_
      refine WM.p trivial rfl ?_
      refine WM.p trivial rfl ?_
      refine WM.o GOk.no trivial (fun w0 hS0 => addI_e (c := 1) rfl rfl rfl (in_i64 (by omega) (by omega))) ?_
      refine WM.o GOk.no trivial (fun w0 hS0 => o_cutE (A' := some ⟨g, 1, none⟩) (m' := xs.length) (c' := c0 - 1) 1 (xs.length + 1) el45 rfl rfl rfl (.inr ⟨_, _, rfl, by omega, rfl⟩) (.inl ⟨rfl, rfl⟩) (by omega) (by omega) (cutAddr_some _ _ _ _ _ (by omega)) rfl rfl) ?_
      refine WM.p trivial rfl ?_
      refine WM.p trivial rfl ?_
      refine WM.o GOk.no trivial (fun w0 hS0 => o_cutE (A' := some ⟨g, 0, none⟩) (m' := xs.length + 1) (c' := c0) 0 (xs.length + 1) el45 rfl rfl rfl (.inr ⟨_, _, rfl, by omega, rfl⟩) (.inl ⟨rfl, rfl⟩) (by omega) (by omega) (cutAddr_zero _ _ _) rfl rfl) ?_
      refine WM.z ?_
      refine WL.copy cs GOk.no el45 rfl rfl (hbox.step hg3 (by simp)) (hat.step hg3 (by simp)) (by simp [hcl]) (by omega) hone fun w4 hg4 hz4 hb4 => ?_
      refine WL.nil ?_
      refine WM.nil ?_
      refine WC.seq ?_
      refine WC.region ?_
      refine WL.pure rfl ?_
      refine WL.pure rfl ?_
      refine WL.cutE (A' := some ⟨g, 0, none⟩) (m' := xs.length + 1) (c' := c0) 0 (xs.length + 1) GOk.no el45 rfl rfl rfl (.inr ⟨_, _, rfl, by omega, rfl⟩) (.inl ⟨rfl, rfl⟩) (by omega) (by omega) (cutAddr_zero _ _ _) rfl rfl ?_
      refine WL.pure rfl ?_
      have hat4 : At w4 ⟨gv, 0, none⟩ [u] := ((hb.step hg3 (by simp)).step hg4 (by simp; omega)).at_
      refine WL.copy [u] GOk.no el45 rfl rfl hb4 hat4 (by simp) (by rw [size_putAt (by omega)]; simp; omega) (by simpa using hgu) fun w5 hg5 hz5 hb5 => ?_
      refine WL.nil ?_
      have hgAll : w.grownBy w5 (some g) := gb_trans (gb_none hg3 _) (gb_trans hg4 hg5)
      refine WC.seq ?_
      refine WC.region ?_
      refine WL.pure rfl ?_
      refine WL.pure rfl ?_
      refine WL.nil ?_
      refine WC.retn (Ret1 rfl ⟨_, rfl, own_close (r := rAnyS) rfl (cs := u :: cs) (by simp) hbg hb5 (by simp; omega) hc2 (by rw [size_putAt (by rw [size_putAt (by omega)]; simp; omega), size_putAt (by omega)]; exact hcs) ?_ ?_, hgAll, .inl rfl⟩)
      · exact take_putAt2 cur cs u _ (by simp [hcl]) (by omega)
      · refine Reps.append (xs := [x]) (ys := xs) (cs := [u]) (c := cs) (Reps.one ?_ rfl) ?_
        · exact rAnyS.mono (rAnyS.move hx fun b hb hl => hgAll.block b hl hb.2) fun b hb hl => ⟨hb.1, hb.2⟩
        · exact hreps.imp fun y c hy => rAnyS.move hy fun b hb hl => hgAll.block b hl hb.2
theorem insL_calls {base : Nat} {ok : Nat → Prop} (v : Value) (xs : List (List Ent)) (x : (List Ent)) (u : Value) (gv : Nat) (w : World) (hv : Own rLE 39 base ok w v xs) (hb : Box w gv #[u] 39) (hx : rLE.R (fun b => ok b ∧ some b ≠ v.ownBlock) w x [u]) (hgv : some gv ≠ v.ownBlock) (hbase : base ≤ w.heap.size) (hlen : xs.length ≤ 1000) :
    Calls Tryd.prog 17 #[v, .int .i64 0, .slice (some ⟨gv, 0, none⟩) 1 1] w fun e w' => ∃ v1, e = .returned v1 ∧ Own rLE 39 base ok w' v1 (x :: xs) ∧ w.grownBy w' v.ownBlock ∧ (v1.ownBlock = v.ownBlock ∨ ∃ k, v1.ownBlock = some k ∧ w.heap.size ≤ k) := by
  have hgu : u.oneCell' = true := rLE.one hx u (by simp)
  obtain ⟨A0, n0, c0, hvs, hn0, hc0⟩ : ∃ A n c, v = .slice A n c ∧ n = xs.length ∧ n ≤ c := by
    rcases own_open rfl hv with ⟨rfl, rfl⟩ | ⟨g, cap, cur, cs, rfl, _, _, hc1, _⟩
    · exact ⟨_, _, _, rfl, rfl, Nat.le_refl _⟩
    · exact ⟨_, _, _, rfl, rfl, hc1⟩
  have hv0 := hv
  rw [hvs] at hv0 hgv hx ⊢
  refine enter F17 rfl rfl ?_
  refine WC.seq ?_
  refine WC.region ?_
  refine WL.pure rfl ?_
  refine WL.nil ?_
  refine WC.seq ?_
  refine WC.region ?_
  refine WL.pure rfl ?_
  refine WL.pure rfl ?_
  refine WL.cut 0 n0 GOk.no el48 rfl rfl rfl (.inr ⟨_, _, rfl, by omega, rfl⟩) (.inl ⟨rfl, rfl⟩) (by omega) (by omega) ?_
  refine WL.nil ?_
  refine WC.seq ?_
  refine WC.region ?_
  refine WL.pure rfl ?_
  refine WL.lenS GOk.no Tryd.underlying48 rfl ?_
  refine WL.pure rfl ?_
  refine WL.nil ?_
  refine WC.seq ?_
  refine WC.seq ?_
  refine WC.region ?_
  refine WL.pure rfl ?_
  refine WL.pure rfl ?_
  refine WL.nil ?_
  refine WC.condF rfl rfl ?_
  refine WC.skip ?_
  refine WC.seq ?_
  refine WC.region ?_
  refine WL.pure rfl ?_
  refine WL.lenS GOk.no Tryd.underlying48 rfl ?_
  refine WL.pure rfl ?_
  refine WL.nil ?_
  refine WC.seq ?_
  refine WC.seq ?_
  refine WC.region ?_
  refine WL.pure rfl ?_
  refine WL.pure rfl ?_
  refine WL.pure rfl ?_
  refine WL.nil ?_
  refine WC.condD rfl (fun hc22 => ?_) (fun hc22 => ?_)
  · -- at the end
    have h0 : xs = [] := List.length_eq_zero_iff.1 (by omega)
    subst h0
    refine WC.seq ?_
    refine WC.region ?_
    refine WL.pure rfl ?_
    refine WL.pure rfl ?_
    have hrow : RowE rLE (fun b => (fun b => ok b) b ∧ some b ≠ (Value.slice A0 n0 c0).ownBlock) w (some ⟨gv, 0, none⟩) [x] := RowE.box (cs := [u]) hb (Reps.one hx rfl)
    refine WL.app (r := rLE) (ys := [x]) (by decide) GOk.no el48 rfl (by decide) rfl rfl hv0 hrow hbase (by simp) fun v1 w1 ho1 hg1 hx1 => ?_
    refine WL.pure rfl ?_
    refine WL.nil ?_
    refine WC.retn (Ret1 rfl ⟨_, rfl, by simpa using ho1, hg1, ?_⟩)
    rcases hx1 with hx1 | hx1
    · exact .inl hx1
    · exact .inr ⟨_, hx1, Nat.le_refl _⟩
  · -- at the front
    have hne : xs.length ≠ 0 := by omega
    rcases own_open rfl hv0 with ⟨_, h0⟩ | ⟨g, cap, cur, cs, hve, hbg, hbox, hc1, hc2, hcs, htk, hcl, hreps⟩
    · rw [h0] at hne; exact absurd rfl hne
    obtain ⟨rfl, rfl, rfl⟩ : A0 = some ⟨g, 0, none⟩ ∧ n0 = xs.length ∧ c0 = cap := by injection hve with h1 h2 h3; exact ⟨h1, h2, h3⟩
    have hgg : gv ≠ g := fun e => hgv (by rw [e]; rfl)
    have hmax : c0 ≤ 9223372036854775807 := by simp only [maxLen] at hc2; exact hc2
    have hone : ∀ c ∈ cs, c.oneCell' = true := fun c hc => by
      obtain ⟨i, hi, rfl⟩ := List.getElem_of_mem hc
      refine rLE.one (hreps.2 i xs[i] (List.getElem?_eq_getElem (by omega))) _ ?_
      rw [List.mem_iff_getElem?]
      exact ⟨0, by rw [List.getElem?_take_of_lt (by omega), List.getElem?_drop]; simp [hi]⟩
    have hat : At w ⟨g, 0, none⟩ cs := fun i y hy => hbox.at_ i y (by
      rw [← htk] at hy
      have hi := (List.getElem?_eq_some_iff.1 hy).1
      rwa [List.getElem?_take_of_lt (by rw [List.length_take] at hi; omega)] at hy)
    refine WC.skip ?_
    refine WC.seq ?_
    refine WC.seq ?_
    refine WC.region ?_
    refine WL.pure rfl ?_
    refine WL.pure rfl ?_
    refine WL.addE (c := ((xs.length + 1 : Nat) : Int)) GOk.no rfl rfl (by omega) (in_i64 (by omega) (by omega)) ?_
    refine WL.pure rfl ?_
    refine WL.capS GOk.no Tryd.underlying48 rfl ?_
    refine WL.pure rfl ?_
    refine WL.nil ?_
    refine WC.condD rfl (fun hc31 => ?_) (fun hc31 => ?_)
    · -- no room
      refine WC.seq ?_
      refine WC.region ?_
      refine WL.pure rfl ?_
      refine WL.pure rfl ?_
      refine WL.cutE (A' := some ⟨g, 0, none⟩) (m' := 0) (c' := c0) 0 0 GOk.no el48 rfl rfl rfl (.inl ⟨rfl, rfl⟩) (.inr ⟨_, _, rfl, by omega, rfl⟩) (by omega) (by omega) (cutAddr_zero _ _ _) rfl rfl ?_
      refine WL.pure rfl ?_
      refine WL.pure rfl ?_
      refine WL.addE (c := ((xs.length + 1 : Nat) : Int)) GOk.no rfl rfl (by omega) (in_i64 (by omega) (by omega)) ?_
      refine WL.pure rfl ?_
      refine WL.subE (c := ((xs.length + 1 : Nat) : Int)) GOk.no rfl rfl (by omega) (in_i64 (by omega) (by omega)) ?_
      refine WL.appMake' GOk.no el48 rfl (by decide) Tryd.underlying3 rfl rfl (by omega) (by omega) (by omega) fun cap cur1 w1 hcap1 hcap2 hg1 hb1 hs1 hz1 => ?_
      have hmax1 : cap ≤ 9223372036854775807 := by simp only [maxLen] at hcap2; exact hcap2
      have hs1' : cur1.size = cap := by rw [hs1, Nat.mul_one]
      refine WL.pure rfl ?_
      refine WL.nil ?_
      refine WC.seq ?_
      refine WC.region ?_
      refine WL.pure rfl ?_
      refine WL.pure rfl ?_
      refine WL.cutE (A' := some ⟨w.heap.size, 0, none⟩) (m' := xs.length + 1) (c' := cap) 0 (xs.length + 1) GOk.no el48 rfl rfl rfl (.inr ⟨_, _, rfl, by omega, rfl⟩) (.inl ⟨rfl, rfl⟩) (by omega) (by omega) (cutAddr_zero _ _ _) rfl rfl ?_
      refine WL.pure rfl ?_
      have hat1 : At w1 ⟨gv, 0, none⟩ [u] := (hb.step hg1 (by simp)).at_
      refine WL.copy [u] GOk.no el48 rfl rfl hb1 hat1 (by simp) (by simp; omega) (by simpa using hgu) fun w2 hg2 hz2 hb2 => ?_
      refine WL.nil ?_
      refine WC.seq ?_
      refine WC.mix (fun _ => True) (by kernel_rfl) fun w3 hg3 hh3 => ?_
      refine WM.p trivial rfl ?_
      refine WM.p trivial rfl ?_
      refine WM.p trivial rfl ?_
      refine WM.o GOk.no trivial (fun w0 hS0 => addI_e (c := 1) rfl rfl rfl (in_i64 (by omega) (by omega))) ?_
      refine WM.o GOk.no trivial (fun w0 hS0 => o_cutE (A' := some ⟨w.heap.size, 1, none⟩) (m' := xs.length) (c' := cap - 1) 1 (xs.length + 1) el48 rfl rfl rfl (.inr ⟨_, _, rfl, by omega, rfl⟩) (.inl ⟨rfl, rfl⟩) (by omega) (by omega) (cutAddr_some _ _ _ _ _ (by omega)) rfl rfl) ?_
      refine WM.p trivial rfl ?_
      refine WM.p trivial rfl ?_
      refine WM.o GOk.no trivial (fun w0 hS0 => o_cutE (A' := some ⟨g, 0, none⟩) (m' := xs.length) (c' := c0) 0 xs.length el48 rfl rfl rfl (.inr ⟨_, _, rfl, by omega, rfl⟩) (.inl ⟨rfl, rfl⟩) (by omega) (by omega) (cutAddr_zero _ _ _) rfl rfl) ?_
      refine WM.z ?_
      have hglt := hbox.lt
      have hat3 : At w3 ⟨g, 0, none⟩ cs := ((hat.step hg1 (by simp)).step hg2 (by simp; omega)).step hg3 (by simp)
      have hb3 : Box w3 w.heap.size (putAt cur1 0 [u]) 39 := hb2.step hg3 (by simp)
      refine WL.copy cs GOk.no el48 rfl rfl hb3 hat3 (by simp [hcl]) (by rw [size_putAt (by simp; omega)]; omega) hone fun w4 hg4 hz4 hb4 => ?_
      refine WL.nil ?_
      refine WM.nil ?_
      have hgAll : w.grownBy w4 (some w.heap.size) := gb_trans (gb_none hg1 _) (gb_trans hg2 (gb_trans (gb_none hg3 _) hg4))
      have hgW : w.grownBy w4 (some g) := gb_none (gb_of_below ⟨hgAll.os, hgAll.tape, hgAll.output, hgAll.size, fun i hi => hgAll.block i hi (by simp; omega)⟩) _
      refine WC.seq ?_
      refine WC.region ?_
      refine WL.pure rfl ?_
      refine WL.pure rfl ?_
      refine WL.nil ?_
      refine WC.retn (Ret1 rfl ⟨_, rfl, own_close (r := rLE) rfl (cs := u :: cs) (by simp) hbase hb4 (by simp; omega) hcap2 (by rw [size_putAt (by rw [size_putAt (by simp; omega)]; omega), size_putAt (by simp; omega)]; exact hs1') ?_ ?_, hgW, .inr ⟨_, rfl, Nat.le_refl _⟩⟩)
      · simp only [putAt, List.length_cons, List.length_nil, Nat.zero_add, List.take_zero, List.nil_append, List.cons_append, List.take_succ_cons, List.take_zero, List.length_cons]
        rw [← hcl]; simp
      · refine Reps.append (xs := [x]) (ys := xs) (cs := [u]) (c := cs) (Reps.one ?_ rfl) ?_
        · exact rLE.move (rLE.mono hx (ok' := fun b => ok b ∧ some b ≠ some w.heap.size) fun b hb hl => ⟨hb.1, by simp; omega⟩) fun b hb hl => hgAll.block b hl hb.2
        · exact hreps.imp fun y c hy => rLE.move (rLE.mono hy (ok' := fun b => ok b ∧ some b ≠ some w.heap.size) fun b hb hl => ⟨hb.1, by simp; omega⟩) fun b hb hl => hgAll.block b hl hb.2
    · -- room
      refine WC.skip ?_
      refine WC.seq ?_
      refine WC.region ?_
      refine WL.pure rfl ?_
      refine WL.pure rfl ?_
      refine WL.pure rfl ?_
      refine WL.addE (c := ((xs.length + 1 : Nat) : Int)) GOk.no rfl rfl (by omega) (in_i64 (by omega) (by omega)) ?_
      refine WL.cutE (A' := some ⟨g, 0, none⟩) (m' := xs.length + 1) (c' := c0) 0 (xs.length + 1) GOk.no el48 rfl rfl rfl (.inl ⟨rfl, rfl⟩) (.inr ⟨_, _, rfl, by omega, by omega⟩) (by omega) (by omega) (cutAddr_zero _ _ _) rfl rfl ?_
      refine WL.pure rfl ?_
      refine WL.nil ?_
      refine WC.seq ?_
      refine WC.seq ?_
      refine WC.region ?_
      refine WL.pure rfl ?_
      refine WL.pure rfl ?_
      refine WL.pure rfl ?_
      refine WL.pure rfl ?_
      refine WL.addE (c := 1) GOk.no rfl rfl rfl (in_i64 (by omega) (by omega)) ?_
      refine WL.cutE (A' := some ⟨g, 1, none⟩) (m' := xs.length) (c' := c0 - 1) 1 (xs.length + 1) GOk.no el48 rfl rfl rfl (.inr ⟨_, _, rfl, by omega, rfl⟩) (.inl ⟨rfl, rfl⟩) (by omega) (by omega) (cutAddr_some _ _ _ _ _ (by omega)) rfl rfl ?_
      have hov : (callFunc 32 #[.slice (some ⟨gv, 0, none⟩) 1 1, .slice (some ⟨g, 1, none⟩) xs.length (c0 - 1)]).run Tryd.prog w = .ok (.value (.bool false)) w := by
        rw [run_callFunc_extern Tryd.func32 (by kernel_rfl) (by kernel_rfl) (by kernel_rfl) (e := Extern.SlicesOverlaps.overlaps #[48, 48] #[4]) (by kernel_rfl),
          Lib.run_overlaps_apart w 48 4 39 Tryd.underlying48 1 (fun w => (run_isAgg sh39).2) ⟨gv, 0, none⟩ ⟨g, 1, none⟩ 1 1 xs.length (c0 - 1) hgg _ _ _ _ (Box.shape hb) (Box.shape hbox) (by omega) (hb.frozen _) (hb.frozen _)]
        rfl
      refine WL.callX GOk.no rfl hov ?_
      refine WL.pure rfl ?_
      refine WL.nil ?_
      refine WC.condT rfl rfl ?_
      refine WC.seq ?_
      refine WC.mix (fun _ => True) (by kernel_rfl) fun w3 hg3 hh3 => ?_
      refine WM.p trivial rfl ?_
      refine WM.p trivial rfl ?_
      refine WM.p trivial rfl ?_
      refine WM.o GOk.no trivial (fun w0 hS0 => addI_e (c := 1) rfl rfl rfl (in_i64 (by omega) (by omega))) ?_
      refine WM.o GOk.no trivial (fun w0 hS0 => o_cutE (A' := some ⟨g, 1, none⟩) (m' := xs.length) (c' := c0 - 1) 1 (xs.length + 1) el48 rfl rfl rfl (.inr ⟨_, _, rfl, by omega, rfl⟩) (.inl ⟨rfl, rfl⟩) (by omega) (by omega) (cutAddr_some _ _ _ _ _ (by omega)) rfl rfl) ?_
      refine WM.p trivial rfl ?_
      refine WM.p trivial rfl ?_
      refine WM.o GOk.no trivial (fun w0 hS0 => o_cutE (A' := some ⟨g, 0, none⟩) (m' := xs.length + 1) (c' := c0) 0 (xs.length + 1) el48 rfl rfl rfl (.inr ⟨_, _, rfl, by omega, rfl⟩) (.inl ⟨rfl, rfl⟩) (by omega) (by omega) (cutAddr_zero _ _ _) rfl rfl) ?_
      refine WM.z ?_
      refine WL.copy cs GOk.no el48 rfl rfl (hbox.step hg3 (by simp)) (hat.step hg3 (by simp)) (by simp [hcl]) (by omega) hone fun w4 hg4 hz4 hb4 => ?_
      refine WL.nil ?_
      refine WM.nil ?_
      refine WC.seq ?_
      refine WC.region ?_
      refine WL.pure rfl ?_
      refine WL.pure rfl ?_
      refine WL.cutE (A' := some ⟨g, 0, none⟩) (m' := xs.length + 1) (c' := c0) 0 (xs.length + 1) GOk.no el48 rfl rfl rfl (.inr ⟨_, _, rfl, by omega, rfl⟩) (.inl ⟨rfl, rfl⟩) (by omega) (by omega) (cutAddr_zero _ _ _) rfl rfl ?_
      refine WL.pure rfl ?_
      have hat4 : At w4 ⟨gv, 0, none⟩ [u] := ((hb.step hg3 (by simp)).step hg4 (by simp; omega)).at_
      refine WL.copy [u] GOk.no el48 rfl rfl hb4 hat4 (by simp) (by rw [size_putAt (by omega)]; simp; omega) (by simpa using hgu) fun w5 hg5 hz5 hb5 => ?_
      refine WL.nil ?_
      have hgAll : w.grownBy w5 (some g) := gb_trans (gb_none hg3 _) (gb_trans hg4 hg5)
      refine WC.seq ?_
      refine WC.region ?_
      refine WL.pure rfl ?_
      refine WL.pure rfl ?_
      refine WL.nil ?_
      refine WC.retn (Ret1 rfl ⟨_, rfl, own_close (r := rLE) rfl (cs := u :: cs) (by simp) hbg hb5 (by simp; omega) hc2 (by rw [size_putAt (by rw [size_putAt (by omega)]; simp; omega), size_putAt (by omega)]; exact hcs) ?_ ?_, hgAll, .inl rfl⟩)
      · exact take_putAt2 cur cs u _ (by simp [hcl]) (by omega)
      · refine Reps.append (xs := [x]) (ys := xs) (cs := [u]) (c := cs) (Reps.one ?_ rfl) ?_
        · exact rLE.mono (rLE.move hx fun b hb hl => hgAll.block b hl hb.2) fun b hb hl => ⟨hb.1, hb.2⟩
        · exact hreps.imp fun y c hy => rLE.move hy fun b hb hl => hgAll.block b hl hb.2
end Go.Proofs.YtfgbplbohekghaaDoor
