/- What the store tells of a key; how put, flush and compact turn it. Plain. -/
import Derived.Test.YtfgbplbohekghaaDoorPut
set_option linter.unusedVariables false
namespace Go.Proofs.YtfgbplbohekghaaDoor
open Go.Wl Go.RowKit

def look (ls : List (List Ent)) (k : ByteArray) : Option Ent := ls.findSome? (fun l => l.find? (fun e => decide (k = e.key)))
abbrev MapL := List (ByteArray × Ent)
def keyed (m : MapL) : Prop := ∀ p ∈ m, p.1 = p.2.key
theorem getM_app (m n : MapL) (k : ByteArray) : getM kStrE (m ++ n) k = (getM kStrE m k).or (getM kStrE n k) := by
  induction m with
  | nil => rfl
  | cons p r ih =>
    simp only [List.cons_append, getM]
    by_cases h : k = p.1
    · rw [if_pos h, if_pos h]; rfl
    · rw [if_neg h, if_neg h]; exact ih
theorem getM_addE (m : MapL) (e : Ent) (k : ByteArray) : getM kStrE (addE m e) k = (getM kStrE m k).or (if k = e.key then some e else none) := by
  unfold addE
  by_cases hk : k = e.key
  · subst hk
    cases h : getM kStrE m e.key with
    | none => simp only; rw [getM_app, h]; simp [getM]
    | some v => simp only; rw [h]; rfl
  · cases h : getM kStrE m e.key with
    | none => simp only; rw [getM_app]; simp [getM, hk]
    | some v => simp [hk]
theorem getM_mixL (l : List Ent) : ∀ (m : MapL) (k : ByteArray), getM kStrE (mixL m l) k = (getM kStrE m k).or (l.find? (fun e => decide (k = e.key))) := by
  induction l with
  | nil => intro m k; simp [mixL]
  | cons e l ih =>
    intro m k
    have h1 := ih (addE m e) k
    unfold mixL at h1 ⊢
    rw [List.foldl_cons, h1, getM_addE, Option.or_assoc, List.find?_cons]
    by_cases hk : k = e.key
    · simp [hk]
    · simp [hk]
theorem getM_foldL (ls : List (List Ent)) : ∀ (m : MapL) (k : ByteArray), getM kStrE (ls.foldl mixL m) k = (getM kStrE m k).or (look ls k) := by
  induction ls with
  | nil => intro m k; simp [look]
  | cons l ls ih =>
    intro m k
    rw [List.foldl_cons, ih, getM_mixL, Option.or_assoc]
    unfold look
    rw [List.findSome?_cons]
    congr 1
    cases l.find? (fun e => decide (k = e.key)) <;> rfl
theorem getM_mixAll (ls : List (List Ent)) (k : ByteArray) : getM kStrE (mixAll ls) k = look ls k := by
  have h := getM_foldL ls [] k
  simpa [getM, mixAll] using h
theorem nodup_addE (m : MapL) (e : Ent) (h : (m.map (·.1)).Nodup) : ((addE m e).map (·.1)).Nodup := by
  unfold addE
  cases hg : getM kStrE m e.key with
  | some v => exact h
  | none =>
    have := getM_none hg
    simp only [List.map_append, List.map_cons, List.map_nil]
    rw [List.nodup_append]
    refine ⟨h, by simp, fun a ha b hb => ?_⟩
    simp at hb
    subst hb
    exact fun e => this (e ▸ ha)
theorem keyed_addE (m : MapL) (e : Ent) (h : keyed m) : keyed (addE m e) := by
  unfold addE
  cases hg : getM kStrE m e.key with
  | some v => exact h
  | none =>
    intro p hp
    rcases List.mem_append.1 hp with hp | hp
    · exact h p hp
    · simp at hp; subst hp; rfl
theorem good_mixL (l : List Ent) : ∀ m : MapL, (m.map (·.1)).Nodup → keyed m → ((mixL m l).map (·.1)).Nodup ∧ keyed (mixL m l) := by
  induction l with
  | nil => intro m h1 h2; exact ⟨h1, h2⟩
  | cons e l ih => intro m h1 h2; exact ih (addE m e) (nodup_addE m e h1) (keyed_addE m e h2)
theorem good_foldL (ls : List (List Ent)) : ∀ m : MapL, (m.map (·.1)).Nodup → keyed m → ((ls.foldl mixL m).map (·.1)).Nodup ∧ keyed (ls.foldl mixL m) := by
  induction ls with
  | nil => intro m h1 h2; exact ⟨h1, h2⟩
  | cons l ls ih => intro m h1 h2; obtain ⟨h3, h4⟩ := good_mixL l m h1 h2; exact ih _ h3 h4
theorem good_mixAll (ls : List (List Ent)) : ((mixAll ls).map (·.1)).Nodup ∧ keyed (mixAll ls) := good_foldL ls [] (by simp) (fun _ h => by cases h)
theorem mem_getM {m : MapL} (hn : (m.map (·.1)).Nodup) (hk : keyed m) (e : Ent) : e ∈ m.map (·.2) ↔ getM kStrE m e.key = some e := by
  induction m with
  | nil => simp [getM]
  | cons p r ih =>
    have hpk : p.1 = p.2.key := hk p (by simp)
    simp only [List.map_cons, List.nodup_cons] at hn
    have ih' := ih hn.2 (fun q hq => hk q (List.mem_cons_of_mem _ hq))
    simp only [getM, List.map_cons, List.mem_cons]
    by_cases h : e.key = p.1
    · rw [if_pos h]
      constructor
      · rintro (rfl | h2)
        · rfl
        · exfalso
          rw [List.mem_map] at h2
          obtain ⟨q, hq, rfl⟩ := h2
          have := hk q (List.mem_cons_of_mem _ hq)
          exact hn.1 (by rw [← h, ← this]; exact List.mem_map_of_mem hq)
      · intro h2; cases h2; exact .inl rfl
    · rw [if_neg h, ← ih']
      constructor
      · rintro (rfl | h2)
        · exact absurd hpk.symm h
        · exact h2
      · exact .inr
theorem find_vals {m : MapL} (hn : (m.map (·.1)).Nodup) (hk : keyed m) {ns : List Ent} (hp : ns.Perm (m.map (·.2))) (k : ByteArray) : ns.find? (fun e => decide (k = e.key)) = getM kStrE m k := by
  cases h : ns.find? (fun e => decide (k = e.key)) with
  | some e =>
    have h1 := List.mem_of_find?_eq_some h
    have h2 := List.find?_some h
    have h3 : k = e.key := by simpa using h2
    subst h3
    exact ((mem_getM hn hk e).1 (hp.mem_iff.1 h1)).symm
  | none =>
    cases hg : getM kStrE m k with
    | none => rfl
    | some e =>
      exfalso
      have hke : k = e.key := by
        clear h hp hn
        induction m with
        | nil => cases hg
        | cons p r ih =>
          simp only [getM] at hg
          by_cases h : k = p.1
          · rw [if_pos h] at hg; cases hg; rw [h]; exact hk p (by simp)
          · rw [if_neg h] at hg; exact ih (fun q hq => hk q (List.mem_cons_of_mem _ hq)) hg
      subst hke
      have h1 := hp.mem_iff.2 ((mem_getM hn hk e).2 hg)
      have h2 := List.find?_eq_none.1 h e h1
      simp at h2
/-- What the store tells. -/
noncomputable def view (m : MapL) (ls : List (List Ent)) (k : ByteArray) : Option Ent := (getM kStrE m k).or (look ls k)
theorem look_cons (ns : List Ent) (ls : List (List Ent)) (k : ByteArray) : look (ns :: ls) k = (ns.find? (fun e => decide (k = e.key))).or (look ls k) := by
  unfold look
  rw [List.findSome?_cons]
  cases ns.find? (fun e => decide (k = e.key)) <;> rfl
theorem look_vals {m : MapL} (hn : (m.map (·.1)).Nodup) (hk : keyed m) {ns : List Ent} (hp : ns.Perm (m.map (·.2))) (ls : List (List Ent)) (k : ByteArray) : look (ns :: ls) k = view m ls k := by
  rw [look_cons, find_vals hn hk hp]; rfl
/-- Who is among all: just who is told. -/
theorem mem_all {m : MapL} (hn : (m.map (·.1)).Nodup) (hk : keyed m) {ns xs : List Ent} {ls : List (List Ent)} (hp : ns.Perm (m.map (·.2))) (hx : xs.Perm ((mixAll (ns :: ls)).map (·.2))) (e : Ent) : e ∈ xs ↔ view m ls e.key = some e := by
  obtain ⟨h1, h2⟩ := good_mixAll (ns :: ls)
  rw [hx.mem_iff, mem_getM h1 h2, getM_mixAll, look_vals hn hk hp]
theorem view_set (m : MapL) (ls : List (List Ent)) (x : Ent) (k q : ByteArray) : view (setM kStrE m k x) ls q = if q = k then some x else view m ls q := by
  unfold view
  have h : getM kStrE (setM kStrE m k x) q = if q = k then some x else getM kStrE m q := by
    induction m with
    | nil => simp only [setM, getM]; by_cases h2 : q = k <;> simp [h2]
    | cons p r ih =>
      simp only [setM]
      by_cases h1 : k = p.1
      · rw [if_pos h1]
        simp only [getM]
        by_cases h2 : q = k
        · simp [h2]
        · rw [if_neg h2, if_neg h2, if_neg (fun e => h2 (e.trans h1.symm))]
      · rw [if_neg h1]
        simp only [getM]
        by_cases h2 : q = p.1
        · rw [if_pos h2, if_pos h2, if_neg (fun e => h1 (e.symm.trans h2))]
        · rw [if_neg h2, if_neg h2]; exact ih
  rw [h]
  split <;> simp
theorem view_flush {m : MapL} (hn : (m.map (·.1)).Nodup) (hk : keyed m) {xs : List Ent} (hp : xs.Perm (m.map (·.2))) (ls : List (List Ent)) (q : ByteArray) : view [] (xs :: ls) q = view m ls q := by
  rw [show view [] (xs :: ls) q = look (xs :: ls) q by simp [view, getM], look_vals hn hk hp]
theorem view_compact {m : MapL} (hn : (m.map (·.1)).Nodup) (hk : keyed m) {ns xs : List Ent} {ls : List (List Ent)} (hp : ns.Perm (m.map (·.2))) (hx : xs.Perm ((mixAll (ns :: ls)).map (·.2))) (q : ByteArray) : view [] (if xs.length = 0 then [] else [xs]) q = view m ls q := by
  obtain ⟨h1, h2⟩ := good_mixAll (ns :: ls)
  have h3 := find_vals h1 h2 hx q
  rw [getM_mixAll, look_vals hn hk hp] at h3
  rw [← h3]
  simp only [view, getM, Option.none_or]
  by_cases h0 : xs.length = 0
  · rw [if_pos h0, List.length_eq_zero_iff.1 h0]; rfl
  · rw [if_neg h0, look_cons]; simp [look]
/-- The last that was written of a key, among the first n. -/
def lastV (K V : Nat → ByteArray) : Nat → ByteArray → Option Ent
  | 0, _ => none
  | i + 1, q => if q = K i then some ⟨q, V i, false⟩ else lastV K V i q
theorem lastV_live (K V : Nat → ByteArray) : ∀ (n : Nat) (q : ByteArray) (e : Ent), lastV K V n q = some e → e.dead = false ∧ e.key = q
  | 0, q, e, h => by cases h
  | n + 1, q, e, h => by
    simp only [lastV] at h
    split at h
    · cases h; exact ⟨rfl, rfl⟩
    · exact lastV_live K V n q e h
theorem lastV_at (K V : Nat → ByteArray) : ∀ (n : Nat) (q : ByteArray) (last : Nat), last < n → K last = q → (∀ j, last < j → j < n → K j ≠ q) → lastV K V n q = some ⟨q, V last, false⟩
  | 0, _, _, h, _, _ => by omega
  | n + 1, q, last, h, he, hno => by
    simp only [lastV]
    by_cases h1 : last = n
    · subst h1; rw [if_pos he.symm]
    · rw [if_neg (fun e => hno n (by omega) (by omega) e.symm)]
      exact lastV_at K V n q last (by omega) he (fun j h1 h2 => hno j h1 (by omega))
end Go.Proofs.YtfgbplbohekghaaDoor
