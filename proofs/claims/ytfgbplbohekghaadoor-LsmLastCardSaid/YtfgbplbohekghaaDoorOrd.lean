/- Strings in order. No condition. -/
import Derived.Test.YtfgbplbohekghaaDoorL9
import Derived.Lib.Bytealg
set_option linter.unusedVariables false
namespace Go.Wl
open Go.RowKit
theorem bl_irrefl : ∀ x : List UInt8, Op.bytesLess x x = false
  | [] => rfl
  | a :: x => by simp [Op.bytesLess, bl_irrefl x]
theorem bl_trans : ∀ x y z : List UInt8, Op.bytesLess x y = true → Op.bytesLess y z = true → Op.bytesLess x z = true
  | _, [], _, h, _ => by cases ‹List UInt8› <;> simp [Op.bytesLess] at h
  | _, _ :: _, [], _, h => by simp [Op.bytesLess] at h
  | [], _ :: _, _ :: _, _, _ => rfl
  | a :: x, b :: y, c :: z, h, k => by
    simp only [Op.bytesLess, Bool.or_eq_true, Bool.and_eq_true, decide_eq_true_eq, beq_iff_eq, UInt8.lt_iff_toNat_lt] at *
    rcases h with h | ⟨rfl, h⟩
    · rcases k with k | ⟨rfl, k⟩
      · exact .inl (by omega)
      · exact .inl h
    · rcases k with k | ⟨rfl, k⟩
      · exact .inl k
      · exact .inr ⟨rfl, bl_trans x y z h k⟩
theorem cb_neg : ∀ x y : List UInt8, Lib.compareBytes x y < 0 ↔ Op.bytesLess x y = true
  | [], [] => by simp [Lib.compareBytes, Op.bytesLess]
  | [], _ :: _ => by simp [Lib.compareBytes, Op.bytesLess]
  | _ :: _, [] => by simp [Lib.compareBytes, Op.bytesLess]
  | a :: x, b :: y => by
    simp only [Lib.compareBytes, Op.bytesLess, Bool.or_eq_true, Bool.and_eq_true, decide_eq_true_eq, beq_iff_eq]
    by_cases h : a < b
    · simp [h]
    · by_cases h' : b < a
      · have hne : ¬ a = b := fun e => by subst e; exact h h'
        simp [h, h', hne]
      · have e : a = b := by
          rw [UInt8.lt_iff_toNat_lt] at h h'
          exact UInt8.toNat_inj.1 (by omega)
        subst e
        simp [h, cb_neg x y]
theorem cb_zero : ∀ x y : List UInt8, Lib.compareBytes x y = 0 ↔ x = y
  | [], [] => by simp [Lib.compareBytes]
  | [], _ :: _ => by simp [Lib.compareBytes]
  | _ :: _, [] => by simp [Lib.compareBytes]
  | a :: x, b :: y => by
    simp only [Lib.compareBytes]
    by_cases h : a < b
    · have hne : ¬ a = b := fun e => by subst e; simp [UInt8.lt_iff_toNat_lt] at h
      simp [h, hne]
    · by_cases h' : b < a
      · have hne : ¬ a = b := fun e => by subst e; exact h h'
        simp [h, h', hne]
      · have e : a = b := by
          rw [UInt8.lt_iff_toNat_lt] at h h'
          exact UInt8.toNat_inj.1 (by omega)
        subst e
        simp [h, cb_zero x y]
theorem toList_data (s : ByteArray) : s.toList = s.data.toList := ByteArray.toList_eq s
theorem data_inj {a b : ByteArray} : a.data.toList = b.data.toList ↔ a = b := ⟨fun h => by cases a; cases b; simpa using h, fun h => by rw [h]⟩
/-- a before b. -/
def blt (a b : ByteArray) : Prop := Op.bytesLess a.toList b.toList = true
theorem blt_irrefl (a : ByteArray) : ¬ blt a a := fun h => by rw [blt, bl_irrefl] at h; cases h
theorem blt_trans {a b c : ByteArray} (h : blt a b) (k : blt b c) : blt a c := bl_trans _ _ _ h k
theorem blt_asymm {a b : ByteArray} (h : blt a b) (k : blt b a) : False := blt_irrefl a (blt_trans h k)
theorem cmp_neg (a b : ByteArray) : Lib.compareBytes a.data.toList b.data.toList < 0 ↔ blt a b := by rw [cb_neg, blt, toList_data, toList_data]
theorem cmp_zero (a b : ByteArray) : Lib.compareBytes a.data.toList b.data.toList = 0 ↔ a = b := by rw [cb_zero, data_inj]
theorem blt_total (a b : ByteArray) : blt a b ∨ a = b ∨ blt b a := by
  have key : ∀ x y : List UInt8, Op.bytesLess x y = true ∨ x = y ∨ Op.bytesLess y x = true := by
    intro x
    induction x with
    | nil => intro y; cases y with
      | nil => exact .inr (.inl rfl)
      | cons => exact .inl rfl
    | cons a x ih => intro y; cases y with
      | nil => exact .inr (.inr rfl)
      | cons b y =>
        simp only [Op.bytesLess, Bool.or_eq_true, Bool.and_eq_true, decide_eq_true_eq, beq_iff_eq, UInt8.lt_iff_toNat_lt]
        rcases Nat.lt_trichotomy a.toNat b.toNat with h | h | h
        · exact .inl (.inl h)
        · have e := UInt8.toNat_inj.1 h
          subst e
          rcases ih y with h1 | h1 | h1
          · exact .inl (.inr ⟨rfl, h1⟩)
          · exact .inr (.inl (by rw [h1]))
          · exact .inr (.inr (.inr ⟨rfl, h1⟩))
        · exact .inr (.inr (.inl h))
  have := key a.data.toList b.data.toList
  rw [data_inj, ← toList_data, ← toList_data] at this
  exact this
/-- The middle of a search. -/
theorem mid_eq (a b : Nat) (h : a + b < 9223372036854775808) : IntKind.i64.wrap ((IntKind.u64.wrap ((a : Int) + (b : Int))).fdiv (2 ^ (min (1 : Int).toNat IntKind.u64.bits))) = (((a + b) / 2 : Nat) : Int) := by
  have e1 : IntKind.u64.wrap ((a : Int) + (b : Int)) = (a : Int) + b := by
    simp [IntKind.wrap, IntKind.signed, IntKind.bits]; omega
  rw [e1]
  have e2 : (2 : Int) ^ (min (1 : Int).toNat IntKind.u64.bits) = 2 := by decide
  rw [e2, Int.fdiv_eq_ediv_of_nonneg _ (by omega)]
  simp only [IntKind.wrap_i64]; omega
end Go.Wl
