/- What is proved: whatever the input, weirlaw6.LsmLast returns true, and its arguments read behind the call as they read before; the variable errors.errorType is laid by the program's own text. No condition. -/
import Derived.Test.YtfgbplbohekghaaDoorHandle
import Derived.Test.YtfgbplbohekghaaDoorLaw
import Derived.Test.YtfgbplbohekghaaDoorTie
import Derived.Test.YtfgbplbohekghaaDoorCards
import Derived.SevenTiedAt
set_option linter.unusedVariables false
namespace Go.Proofs.YtfgbplbohekghaaDoor
open Go.ChangeShapes Go.WideShapes Go.ChangeAt Go.RowKit Go.Wl
set_option maxHeartbeats 2000000 in
set_option maxRecDepth 100000 in
theorem lsmLast_lifted (os : Os) (started : os.Started) (H : Type) (enc : TypeId × Value → H) :
    ReturnsInHanded {} Tryd.checked os 3 .any (fun w args => (Rows.lsmLastSpec.pre enc Tryd.prog Tryd.f3 Rows.lsmLastRow.domain false w args ∧ laidMetH Tryd.prog [("errors.errorType", Rows.laid_errors_errorType)] w) ∧ sizedMet enc Tryd.prog Tryd.f3 (OpenSpec.ofChange Rows.lsmLastSpec) false w args)
      (Rows.lsmLastSpec.post enc Tryd.prog Tryd.f3 false true false false) := by
  refine returnsInHanded_of_change_and (C := Tryd.checked) (X := fun w _ => laidMetH Tryd.prog [("errors.errorType", Rows.laid_errors_errorType)] w) (fun _ _ _ hh h => h.of_heap hh) own started (by kernel_rfl) Tryd.func3
    (ChangeSpec.witness_at (enc := enc) (C := Tryd.checked) (os := os) (X := fun w _ => laidMetH Tryd.prog [("errors.errorType", Rows.laid_errors_errorType)] w) false (laidWorld os) #[.int .i64 0, .slice none 0 0, .slice none 0 0, .string ⟨#[]⟩] 8 rfl (by kernel_rfl) (by kernel_rfl) (by kernel_rfl) (by kernel_rfl) (by kernel_rfl) (laidWorld_met os _)) ?_
  intro W base args ds gs before hval0 hW _ _ hL _
  have hval : ∀ (j : Nat) t v, Tryd.f3.params[j]? = some t → args[j]? = some v → Value.okWide Tryd.prog W .any base t v := hval0
  have hW' := hW
  obtain ⟨p, q, hA0, hV, rfl, hfz, hnd⟩ := hW
  have hA : DataW.TrodAll enc Tryd.prog W 0 (fun _ => true) true Tryd.f3.params.toList args.toList ds p := hA0
  rw [Tryd.params3] at hA hval
  obtain ⟨v0, vs0, d0, ds0, p0, q0, hargs, rfl, rfl, h0, r0⟩ := trodAll_cons hA
  obtain ⟨v1, vs1, d1, ds1, p1, q1, rfl, rfl, rfl, h1, r1⟩ := trodAll_cons r0
  obtain ⟨v2, vs2, d2, ds2, p2, q2, rfl, rfl, rfl, h2, r2⟩ := trodAll_cons r1
  obtain ⟨v3, vs3, d3, ds3, p3, q3, rfl, rfl, rfl, h3, r3⟩ := trodAll_cons r2
  obtain ⟨rfl, rfl, rfl⟩ := trodAll_nil r3
  obtain rfl : args = #[v0, v1, v2, v3] := by cases args; simp_all
  obtain ⟨rfl, rfl⟩ := trodVars_none hV
  have k1 := h1
  have k2 := h2
  have lt1 : ∀ x ∈ p1, x.block < W.heap.size := by obtain ⟨m, hm⟩ := k1; exact DataW.trod_lt m _ _ _ hm
  have lt2 : ∀ x ∈ p2, x.block < W.heap.size := by obtain ⟨m, hm⟩ := k2; exact DataW.trod_lt m _ _ _ hm
  obtain ⟨a0, rfl, rfl, rfl, w0⟩ := open_int Tryd.underlying3 (hval 0 3 v0 rfl rfl) h0
  obtain ⟨a1, len1, cap1, rfl⟩ := okWide_slice Tryd.underlying22 (hval 1 22 v1 rfl rfl)
  obtain ⟨a2, len2, cap2, rfl⟩ := okWide_slice Tryd.underlying22 (hval 2 22 v2 rfl rfl)
  obtain ⟨A1, ks, c1, ev1, hc1, _, hrow1⟩ : ∃ A xs c, (Value.slice a1 len1 cap1) = .slice A xs.length c ∧ xs.length ≤ c ∧ c ≤ maxLen ∧ Row rStr (fun _ => True) W A xs := by
    obtain ⟨fuel, hf⟩ := h1
    exact open_strs Tryd.underlying22 Tryd.underlying9 (by kernel_rfl) hf
  obtain ⟨A2, vs, c2, ev2, hc2, _, hrow2⟩ : ∃ A xs c, (Value.slice a2 len2 cap2) = .slice A xs.length c ∧ xs.length ≤ c ∧ c ≤ maxLen ∧ Row rStr (fun _ => True) W A xs := by
    obtain ⟨fuel, hf⟩ := h2
    exact open_strs Tryd.underlying22 Tryd.underlying9 (by kernel_rfl) hf
  cases ev1
  cases ev2
  obtain ⟨s3, rfl, rfl, rfl, w3⟩ := Go.ChangeMaps.open_string Tryd.underlying9 (hval 3 9 v3 rfl rfl) h3
  have hg := handle_of_laid hL
  clear hA0 hval0
  refine (weirlaw6_LsmLast_calls a0 a1 cap1 ks a2 cap2 vs s3 W hrow1 hrow2 hg).mono fun e W' ⟨he, bel⟩ => ?_
  subst he
  exact ⟨_, rfl, _, _, _, [], _, [], hW', trodAll_mk1 (shut_bool Tryd.underlying4 _), (trodAll_cons_mk (shut_int Tryd.underlying3 w0) (trodAll_cons_mk (Below.trod laidOut (by kernel_rfl) (of_decide_eq_true (by kernel_rfl)) k1 bel lt1) (trodAll_cons_mk (Below.trod laidOut (by kernel_rfl) (of_decide_eq_true (by kernel_rfl)) k2 bel lt2) (trodAll_cons_mk (Go.ChangeMaps.shut_string Tryd.underlying9 w3) trodAll_mk0)))), rfl, bel.frame _, fun h => by cases h⟩
theorem lsmLast_bare : Rows.LsmLastSaid :=
  OpenClaim.holds_of_wide 3 Tryd.f3 rfl rfl rfl rfl rfl rfl rfl ⟨rfl, rfl, rfl, rfl, rfl⟩ rfl rfl rfl rfl rfl (by kernel_rfl) Tryd.func3 (by kernel_rfl)
    (of_decide_eq_true (by kernel_rfl)) (by unfold Func.isWrapper; first | (rw [if_pos (by decide +kernel)]; kernel_rfl) | (rw [if_neg (by decide +kernel)]; exact ⟨rfl, rfl⟩))
    (fun os started H enc _ => lsmLast_lifted os started H enc)
theorem lsmLast_holds : Rows.LsmLastCardSaid :=
  Claim7.holds_tied_plain_at .later [] [.handle] true (true, "61f1a2aa9fd12f210c60ea7419f5db64a64f98e975ef9e134e2dceef77294db9") true
    lsmLast_bare (fun _ h => by cases h) (by kernel_rfl) (fun _ h => by cases h) lsmLast_row_tie rfl ⟨rfl, rfl⟩ (by kernel_rfl) rfl
    (fun f fn hf hfn => by
      obtain rfl : f = 3 := Option.some.inj ((show Tryd.prog.funcNamed "weirgate/weirlaw6.LsmLast" = some 3 by kernel_rfl).symm.trans hf) |>.symm
      obtain rfl : fn = Tryd.f3 := (Option.some.inj (Tryd.func3.symm.trans hfn)).symm
      exact ⟨by kernel_rfl, fun j t ht => by
        rw [Tryd.params3] at ht
        have h3 : Tryd.prog.wantsStandIn 3 = false ∧ Tryd.prog.wantsStandIn 22 = false ∧ Tryd.prog.wantsStandIn 9 = false := ⟨by kernel_rfl, by kernel_rfl, by kernel_rfl⟩
        match j, ht with
        | 0, ht => cases ht; exact h3.1
        | 1, ht => cases ht; exact h3.2.1
        | 2, ht => cases ht; exact h3.2.1
        | 3, ht => cases ht; exact h3.2.2
        | j + 4, ht => simp at ht⟩)
    (by kernel_rfl)
#print axioms lsmLast_holds
end Go.Proofs.YtfgbplbohekghaaDoor
