/- Floats of 64 bits: what the tests of Edge, Place and Whole come to, class by class. Plain laws on numbers; the program's functions of the bits alone. -/
import Derived.Test.YtncnkfjddolabaaFw2
namespace Go.Proofs.Ytncnkfjddolabaa.Fl
open Ieee Go.RowKit

theorem xor_top (b : Nat) (hb : b < 9223372036854775808) : b ^^^ 9223372036854775808 = b + 9223372036854775808 := by
  apply Nat.eq_of_testBit_eq
  intro i
  rw [Nat.testBit_xor, show (9223372036854775808 : Nat) = 2 ^ 63 by decide, Nat.testBit_two_pow, Nat.add_comm b]
  rcases Nat.lt_trichotomy i 63 with h | h | h
  · have h' : ¬ 63 = i := by omega
    rw [Nat.testBit_two_pow_add_gt h]; simp [h']
  · subst h; rw [Nat.testBit_two_pow_add_eq, Nat.testBit_lt_two_pow hb]; decide
  · have h1 : b < 2 ^ i := Nat.lt_of_lt_of_le hb (Nat.le_trans (show 9223372036854775808 ≤ 2 ^ 63 by decide) (Nat.pow_le_pow_right (by decide) (by omega)))
    have h2 : 2 ^ 63 + b < 2 ^ i := Nat.lt_of_lt_of_le (show 2 ^ 63 + b < 2 ^ 64 by omega) (Nat.pow_le_pow_right (by decide) (by omega))
    have h' : ¬ 63 = i := by omega
    rw [Nat.testBit_lt_two_pow h1, Nat.testBit_lt_two_pow h2]; simp [h']

theorem neg_eq' (b : Nat) (hb : b < 18446744073709551616) : Op.negFloat .f64 b = if sg b then b - 9223372036854775808 else b + 9223372036854775808 := by
  have e : Op.negFloat .f64 b = b ^^^ 9223372036854775808 := rfl
  rw [e]
  unfold sg
  split
  · rename_i h
    simp only [decide_eq_true_eq] at h
    have := xor_top (b - 9223372036854775808) (by omega)
    have e2 : b - 9223372036854775808 + 9223372036854775808 = b := by omega
    rw [e2] at this
    conv => lhs; rw [← this]
    rw [Nat.xor_assoc, Nat.xor_self, Nat.xor_zero]
  · rename_i h
    simp only [decide_eq_true_eq] at h
    exact xor_top b (by omega)
theorem neg_lt (b : Nat) (hb : b < 18446744073709551616) : Op.negFloat .f64 b < 18446744073709551616 := by
  rw [neg_eq' b hb]; unfold sg; split <;> rename_i h <;> simp only [decide_eq_true_eq] at h <;> omega
theorem neg_rg (b : Nat) (hb : b < 18446744073709551616) : rg (Op.negFloat .f64 b) = rg b := by
  rw [neg_eq' b hb]; unfold sg rg; split <;> rename_i h <;> simp only [decide_eq_true_eq] at h <;> omega
theorem neg_sg (b : Nat) (hb : b < 18446744073709551616) : sg (Op.negFloat .f64 b) = !sg b := by
  rw [neg_eq' b hb]; unfold sg; split <;> rename_i h <;> simp only [decide_eq_true_eq] at h <;> simp [h] <;> omega
theorem neg_nan (b : Nat) (hb : b < 18446744073709551616) : nan (Op.negFloat .f64 b) = nan b := by unfold nan; rw [neg_rg b hb]
theorem neg_sv (b : Nat) (hb : b < 18446744073709551616) : sv (Op.negFloat .f64 b) = -sv b := by
  unfold sv; rw [neg_rg b hb, neg_sg b hb]; cases sg b <;> simp

theorem b_lt (a b : Int) : (some (compare a b) == some Ordering.lt) = decide (a < b) := by
  rw [cmp_eq]; by_cases h : a < b
  · simp [h]
  · by_cases h2 : a = b <;> simp [h, h2]
theorem b_gt (a b : Int) : (some (compare a b) == some Ordering.gt) = decide (b < a) := by
  rw [cmp_eq]; by_cases h : a < b
  · have : ¬ b < a := by omega
    simp [h, this]
  · by_cases h2 : a = b
    · subst h2; simp
    · have : b < a := by omega
      simp [h, h2, this]
theorem b_eq (a b : Int) : (some (compare a b) == some Ordering.eq) = decide (a = b) := by
  rw [cmp_eq]; by_cases h : a < b
  · have : a ≠ b := by omega
    simp [h, this]
  · by_cases h2 : a = b <;> simp [h, h2]

section
variable {x y : Nat} (hx : x < 18446744073709551616) (hy : y < 18446744073709551616) (hn : nan y = false)
include hx hy hn
theorem t_lt : (FloatKind.f64.format.order x y == some Ordering.lt) = (!nan x && decide (sv x < sv y)) := by
  rw [show FloatKind.f64.format.order x y = double.order x y from rfl, order_eq hx hy, hn]; cases nan x
  · exact b_lt _ _
  · rfl
theorem t_gt : (FloatKind.f64.format.order x y == some Ordering.gt) = (!nan x && decide (sv y < sv x)) := by
  rw [show FloatKind.f64.format.order x y = double.order x y from rfl, order_eq hx hy, hn]; cases nan x
  · exact b_gt _ _
  · rfl
theorem t_eq : (FloatKind.f64.format.order x y == some Ordering.eq) = (!nan x && decide (sv x = sv y)) := by
  rw [show FloatKind.f64.format.order x y = double.order x y from rfl, order_eq hx hy, hn]; cases nan x
  · exact b_eq _ _
  · rfl
end
theorem t_ne {x : Nat} (hx : x < 18446744073709551616) : (FloatKind.f64.format.order x x != some Ordering.eq) = nan x := by
  rw [show FloatKind.f64.format.order x x = double.order x x from rfl, order_eq hx hx]
  cases h : nan x
  · have := b_eq (sv x) (sv x)
    simp only [decide_true] at this
    simp only [bne, Bool.or_self, Bool.false_eq_true, if_false, this, Bool.not_true]
  · simp
theorem signT_eq {b : Nat} (hb : b < 18446744073709551616) : signT b = sg b := by
  unfold signT sg wrap64
  rw [Bool.eq_iff_iff]
  simp only [decide_eq_true_eq]
  omega

theorem c_max : sv 9218868437227405311 = 9218868437227405311 ∧ nan 9218868437227405311 = false := by decide
theorem c_min : sv 18442240474082181119 = -9218868437227405311 ∧ nan 18442240474082181119 = false := by decide
theorem c_zero : sv 0 = 0 ∧ nan 0 = false := by decide
theorem c_far : sv 4845873199050653696 = 4845873199050653696 ∧ nan 4845873199050653696 = false := by decide
theorem c_near : sv 14069245235905429504 = -4845873199050653696 ∧ nan 14069245235905429504 = false := by decide

/-- The pairs of Place and Edge. -/
def Pair (p e : Int) : Prop := (p = 0 ∧ e = 2) ∨ (p = 1 ∧ e = 0) ∨ (p = 2 ∧ e = 4) ∨ (p = 3 ∧ e = 5) ∨ (p = 4 ∧ e = 0) ∨ (p = 5 ∧ e = 3) ∨ (p = 6 ∧ e = 1)

theorem edge_eq {b : Nat} (hb : b < 18446744073709551616) :
    edgeT b = if nan b then 1 else if sv b < -9218868437227405311 then 2 else if 9218868437227405311 < sv b then 3 else if sv b = 0 then (if sg b then 4 else 5) else 0 := by
  unfold edgeT isnanT ord
  rw [t_ne hb, t_gt (neg_lt b hb) (by decide) c_max.2, t_gt hb (by decide) c_max.2, t_eq hb (by decide) c_zero.2, signT_eq hb, neg_nan b hb, neg_sv b hb, c_max.1, c_zero.1]
  cases nan b
  · simp only [Bool.not_false, Bool.true_and, decide_eq_true_eq, Bool.false_eq_true, if_false]
    have : (9218868437227405311 < -sv b) = (sv b < -9218868437227405311) := by apply propext; omega
    simp only [this]
  · simp
theorem place_eq {b : Nat} (hb : b < 18446744073709551616) :
    placeU b = if nan b then 6 else if 9218868437227405311 < sv b then 5 else if sv b < -9218868437227405311 then 0 else if 0 < sv b then 4 else 1 := by
  unfold placeU isnanT ord
  rw [t_ne hb, t_gt hb (by decide) c_max.2, t_lt hb (by decide) c_min.2, t_gt hb (by decide) c_zero.2, c_max.1, c_min.1, c_zero.1]
  cases nan b <;> simp
theorem pair_any {b : Nat} (hb : b < 18446744073709551616) (hz : (FloatKind.f64.format.order b 0 == some Ordering.eq) = false) : Pair (placeU b) (edgeT b) := by
  have h0 := hz
  rw [t_eq hb (by decide) c_zero.2, c_zero.1] at h0
  rw [edge_eq hb, place_eq hb]
  unfold Pair
  cases hn : nan b
  · rw [hn] at h0
    simp only [Bool.not_false, Bool.true_and, decide_eq_false_iff_not] at h0
    simp only [Bool.false_eq_true, if_false]
    repeat' split
    all_goals omega
  · simp
theorem pair_0 : Pair 3 (edgeT 0) := by
  have : edgeT 0 = 5 := by rw [edge_eq (by decide)]; decide
  rw [this]; unfold Pair; omega
theorem pair_1 : Pair 2 (edgeT 9223372036854775808) := by
  have : edgeT 9223372036854775808 = 4 := by rw [edge_eq (by decide)]; decide
  rw [this]; unfold Pair; omega
theorem zeros {b : Nat} (hb : b < 18446744073709551616) (hz : (FloatKind.f64.format.order b 0 == some Ordering.eq) = true) : b = 0 ∨ b = 9223372036854775808 := by
  rw [t_eq hb (by decide) c_zero.2, c_zero.1] at hz
  simp only [Bool.and_eq_true, decide_eq_true_eq] at hz
  have := hz.2
  unfold sv sg rg at this
  split at this <;> rename_i h <;> simp only [decide_eq_true_eq] at h <;> omega

/-- Near: what Whole comes to, and the law's two tests. -/
theorem near {b : Nat} (hb : b < 18446744073709551616) (hn : nan b = false) (h1 : sv b < 4845873199050653696) (h2 : -4845873199050653696 < sv b) :
    ∃ (r s : Nat) (v : Int), (-9007199254740992 ≤ v ∧ v ≤ 9007199254740992) ∧ double.write ((double.read b).integral .down) = r ∧ (∃ m p, double.read b = .number (sg b) m p) ∧ (double.read r).toInt .zero = some v ∧
      double.add (floatOfInt .f64 v) 4607182418800017408 = some s ∧
      (FloatKind.f64.format.order (floatOfInt .f64 v) b == some .lt || FloatKind.f64.format.order (floatOfInt .f64 v) b == some .eq) = true ∧ (FloatKind.f64.format.order b s == some .lt) = true := by
  have hr : rg b < 4845873199050653696 := by unfold sv at h1 h2; cases hs : sg b <;> simp only [hs, Bool.false_eq_true, if_false, if_true] at h1 h2 <;> omega
  have hU : U 4845873199050653696 = 9007199254740992 * K := by
    obtain ⟨q, hq⟩ : ∃ q : Nat, q = 1075 := ⟨_, rfl⟩
    obtain ⟨c, hc⟩ : ∃ c : Nat, c = 1074 := ⟨_, rfl⟩
    have e := U_rung (q := q) (k := 4503599627370496) (by decide) (.inr (by decide))
    rw [show q * 4503599627370496 + 4503599627370496 = 4845873199050653696 by omega] at e
    rw [e, ← K_of (a := 0) (b := c) (by omega), show (4503599627370496 : Nat) = 2 ^ 52 by decide, show (9007199254740992 : Nat) = 2 ^ 53 by decide, ← Nat.pow_add, ← Nat.pow_add, ← Nat.pow_add, show 52 + q = 53 + (0 + c) by omega]
  have hUb : U (rg b) < 9007199254740992 * K := by rw [← hU]; exact U_lt hr
  obtain ⟨q, hf, hq, hlo, hhi⟩ := floor_spec hb (by omega) (Nat.le_of_lt hUb)
  have hK := K_pos
  obtain ⟨v, hv⟩ : ∃ v : Int, v = if sg b then -(q : Int) else q := ⟨_, rfl⟩
  rw [← hv] at hlo hhi
  -- the number as a float
  have hw : Fin (floatOfInt .f64 v) (decide (v < 0)) (v.natAbs * K) := by
    have h0 := whole_fin (decide (v < 0)) v.natAbs 0 (by rw [hv]; split <;> omega) (by decide)
    have h2 : Fin (double.nearest (decide (v < 0)) v.natAbs 0) (decide (v < 0)) (v.natAbs * K) := by simpa using h0
    exact h2
  have hwS : S (floatOfInt .f64 v) = v * K := by
    rw [S_fin hw]
    by_cases h : v < 0
    · simp only [h, decide_true, if_true]
      have e : (v.natAbs : Int) = -v := by omega
      push_cast; rw [e, Int.neg_mul, Int.neg_neg]
    · simp only [h, decide_false, Bool.false_eq_true, if_false]
      have e : (v.natAbs : Int) = v := by omega
      push_cast; rw [e]
  have hwv : (if decide (v < 0) then -(v.natAbs : Int) else v.natAbs) = v := by
    by_cases h : v < 0 <;> simp [h] <;> omega
  have hvlt : v < 9007199254740992 := by
    rcases Int.lt_or_le v 9007199254740992 with h | h
    · exact h
    · have a1 := Int.mul_le_mul_of_nonneg_right h (show (0 : Int) ≤ K by omega)
      have a2 : S b ≤ U (rg b) := by unfold S; split <;> omega
      have a3 : ((9007199254740992 * K : Nat) : Int) = (9007199254740992 : Int) * K := Int.natCast_mul _ _
      omega
  obtain ⟨s, neg', q', hs, hsf, hsv⟩ := add_one hw (by rw [hv]; split <;> omega) (fun h => by have := of_decide_eq_false h; omega)
  rw [hwv] at hsv
  have hsS : S s = (v + 1) * K := by
    rw [S_fin hsf, ← hsv]; cases neg' <;> simp [Int.neg_mul]
  have hnw : nan (floatOfInt .f64 v) = false := by have := hw.fin; unfold nan; simp; omega
  have hns : nan s = false := by have := hsf.fin; unfold nan; simp; omega
  obtain ⟨m, p, hrd, _, _⟩ := Reads.number hb (by omega)
  refine ⟨_, s, v, ?_, rfl, ⟨m, p, hrd⟩, ?_, hs, ?_, ?_⟩
  · rw [hv]; split <;> omega
  · rw [toInt_whole hf, hv]
  · rw [t_lt hw.lt hb hn, t_eq hw.lt hb hn, hnw]
    have e1 := S_lt_iff (floatOfInt .f64 v) b
    have e2 := S_eq_iff (floatOfInt .f64 v) b
    rw [hwS] at e1 e2
    simp only [Bool.not_false, Bool.true_and, Bool.or_eq_true, decide_eq_true_eq]
    omega
  · rw [t_lt hb hsf.lt hns, hn]
    have e1 := S_lt_iff b s
    rw [hsS] at e1
    simp only [Bool.not_false, Bool.true_and, decide_eq_true_eq]
    omega
end Go.Proofs.Ytncnkfjddolabaa.Fl
