/- Floats of 64 bits by their bits: what the model's order, rounding and cutting come to. Plain laws on numbers; no program. -/
import GoSem.Core.Float
namespace Go.Proofs.Ytncnkfjddolabaa.Fl
open Ieee

/-- The sign. -/
def sg (b : Nat) : Bool := decide (9223372036854775808 ≤ b)
/-- The rung: the magnitude's place in the row of all. -/
def rg (b : Nat) : Nat := b % 9223372036854775808
def nan (b : Nat) : Bool := decide (9218868437227405312 < rg b)
/-- The place of a float that is no NaN among all of them; both noughts at 0. -/
def sv (b : Nat) : Int := if sg b then -(rg b : Int) else rg b
/-- The magnitude in units of 2^-1074. -/
def U (r : Nat) : Nat := if r < 4503599627370496 then r else (4503599627370496 + r % 4503599627370496) * 2 ^ (r / 4503599627370496 - 1)
def S (b : Nat) : Int := if sg b then -(U (rg b) : Int) else U (rg b)

theorem c_sw : double.signWeight = 9223372036854775808 := by decide
theorem c_bin : double.binade = 4503599627370496 := by decide
theorem c_inf : double.infRung = 9218868437227405312 := by decide
theorem c_least : double.leastPlace = -1074 := by decide
theorem c_frac : double.fractionBits = 52 := rfl

theorem rg_lt (b : Nat) : rg b < 9223372036854775808 := Nat.mod_lt _ (by decide)

theorem neg_eq {b : Nat} (h : b < 18446744073709551616) : (b / 9223372036854775808 % 2 == 1) = sg b := by
  unfold sg
  rw [Bool.eq_iff_iff]
  simp only [beq_iff_eq, decide_eq_true_eq]
  omega

/-- What a word reads as. -/
inductive Reads (b : Nat) : Datum → Prop
  | num (m : Nat) (p : Int) (hr : rg b < 9218868437227405312) (hp : -1074 ≤ p) (hm : m * 2 ^ (p + 1074).toNat = U (rg b)) : Reads b (.number (sg b) m p)
  | inf (hr : rg b = 9218868437227405312) : Reads b (.infinity (sg b))
  | nan (f : Nat) (hr : 9218868437227405312 < rg b) : Reads b (.nan (sg b) f)

theorem reads {b : Nat} (h : b < 18446744073709551616) : Reads b (double.read b) := by
  have hn := neg_eq h
  unfold Format.read
  simp only [c_sw, c_bin, c_inf, c_least, hn]
  change Reads b (if rg b < 4503599627370496 then _ else if rg b < 9218868437227405312 then _ else if rg b = 9218868437227405312 then _ else _)
  by_cases h1 : rg b < 4503599627370496
  · rw [if_pos h1]
    exact .num _ _ (by omega) (by omega) (by rw [U, if_pos h1]; exact Nat.mul_one _)
  · rw [if_neg h1]
    by_cases h2 : rg b < 9218868437227405312
    · rw [if_pos h2]
      refine .num _ _ h2 (by omega) ?_
      unfold U
      rw [if_neg h1]
      have : (-1074 + ((rg b / 4503599627370496 - 1 : Nat) : Int) + 1074).toNat = rg b / 4503599627370496 - 1 := by omega
      change _ * 2 ^ (-1074 + ((rg b / 4503599627370496 - 1 : Nat) : Int) + 1074).toNat = _
      rw [this]
      rfl
    · rw [if_neg h2]
      by_cases h3 : rg b = 9218868437227405312
      · rw [if_pos h3]; exact .inf h3
      · rw [if_neg h3]; exact .nan _ (by omega)

theorem pow_lt_of {a b : Nat} (h : a ≤ b) : 2 ^ a ≤ 2 ^ b := Nat.pow_le_pow_right (by decide) h

theorem U_lt {r s : Nat} (h : r < s) : U r < U s := by
  unfold U
  by_cases h1 : r < 4503599627370496
  · rw [if_pos h1]
    by_cases h2 : s < 4503599627370496
    · rw [if_pos h2]; exact h
    · rw [if_neg h2]
      have : 1 ≤ 2 ^ (s / 4503599627370496 - 1) := Nat.one_le_two_pow
      have := Nat.mul_le_mul_left (4503599627370496 + s % 4503599627370496) this
      omega
  · have h2 : ¬ s < 4503599627370496 := by omega
    rw [if_neg h1, if_neg h2]
    have hq : r / 4503599627370496 ≤ s / 4503599627370496 := Nat.div_le_div_right (by omega)
    have hq1 : 1 ≤ r / 4503599627370496 := by omega
    by_cases he : r / 4503599627370496 = s / 4503599627370496
    · rw [he]
      exact Nat.mul_lt_mul_of_pos_right (by omega) (Nat.two_pow_pos _)
    · have hlt : r / 4503599627370496 < s / 4503599627370496 := by omega
      have hp : 2 ^ (r / 4503599627370496 - 1) * 2 ≤ 2 ^ (s / 4503599627370496 - 1) := by
        rw [← Nat.pow_succ]; exact pow_lt_of (by omega)
      have hr := Nat.mod_lt r (show 0 < 4503599627370496 by decide)
      have a1 : (4503599627370496 + r % 4503599627370496) * 2 ^ (r / 4503599627370496 - 1) < (4503599627370496 * 2) * 2 ^ (r / 4503599627370496 - 1) :=
        Nat.mul_lt_mul_of_pos_right (by omega) (Nat.two_pow_pos _)
      have a2 : (4503599627370496 * 2) * 2 ^ (r / 4503599627370496 - 1) = 4503599627370496 * (2 ^ (r / 4503599627370496 - 1) * 2) := by
        rw [Nat.mul_assoc, Nat.mul_comm 2]
      have a3 := Nat.mul_le_mul_left 4503599627370496 hp
      have a4 : 4503599627370496 * 2 ^ (s / 4503599627370496 - 1) ≤ (4503599627370496 + s % 4503599627370496) * 2 ^ (s / 4503599627370496 - 1) := Nat.mul_le_mul_right _ (by omega)
      omega

theorem U_le {r s : Nat} (h : r ≤ s) : U r ≤ U s := by
  rcases Nat.lt_or_eq_of_le h with h | h
  · exact Nat.le_of_lt (U_lt h)
  · rw [h]; exact Nat.le_refl _
theorem U_zero : U 0 = 0 := by decide
theorem U_lt_iff {r s : Nat} : U r < U s ↔ r < s := ⟨fun h => by
  rcases Nat.lt_or_ge r s with h' | h'
  · exact h'
  · have := U_le h'; omega, U_lt⟩
theorem U_eq_iff {r s : Nat} : U r = U s ↔ r = s := ⟨fun h => by
  rcases Nat.lt_trichotomy r s with h' | h' | h'
  · have := U_lt h'; omega
  · exact h'
  · have := U_lt h'; omega, fun h => by rw [h]⟩

theorem S_lt_iff (b c : Nat) : S b < S c ↔ sv b < sv c := by
  have h0 := U_zero
  have e1 := @U_lt_iff (rg b) (rg c)
  have e2 := @U_lt_iff (rg c) (rg b)
  have e3 := @U_eq_iff (rg b) 0
  have e4 := @U_eq_iff (rg c) 0
  unfold S sv
  split <;> split <;> omega
theorem S_eq_iff (b c : Nat) : S b = S c ↔ sv b = sv c := by
  have h0 := U_zero
  have e1 := @U_eq_iff (rg b) (rg c)
  have e3 := @U_eq_iff (rg b) 0
  have e4 := @U_eq_iff (rg c) 0
  unfold S sv
  split <;> split <;> omega

theorem cmp_eq (a b : Int) : compare a b = if a < b then .lt else if a = b then .eq else .gt := rfl
theorem cmp_nat (a b : Nat) : compare a b = if a < b then .lt else if a = b then .eq else .gt := rfl
theorem cmp_congr {a b c d : Int} (h1 : a < b ↔ c < d) (h2 : a = b ↔ c = d) : compare a b = compare c d := by
  rw [cmp_eq, cmp_eq]; simp only [h1, h2]
theorem cmp_mul (a b : Int) (k : Nat) (hk : 0 < k) : compare (a * k) (b * k) = compare a b := by
  have hk' : (0 : Int) < k := by omega
  exact cmp_congr ⟨fun h => Int.lt_of_mul_lt_mul_right h (by omega), fun h => Int.mul_lt_mul_of_pos_right h hk'⟩
    ⟨fun h => Int.eq_of_mul_eq_mul_right (by omega) h, fun h => by rw [h]⟩

theorem signed_mul (s : Bool) (m : Nat) (i base : Int) (hb : base ≤ i) (hl : -1074 ≤ base) :
    signed s m (i - base).toNat * ((2 ^ (base + 1074).toNat : Nat) : Int) = if s then -((m * 2 ^ (i + 1074).toNat : Nat) : Int) else ((m * 2 ^ (i + 1074).toNat : Nat) : Int) := by
  have e : (i + 1074).toNat = (i - base).toNat + (base + 1074).toNat := by omega
  have h : (m <<< (i - base).toNat) * 2 ^ (base + 1074).toNat = m * 2 ^ (i + 1074).toNat := by
    rw [Nat.shiftLeft_eq, Nat.mul_assoc, ← Nat.pow_add, ← e]
  unfold signed
  cases s <;> simp only [Bool.false_eq_true, if_false, if_true] <;> rw [← h] <;> simp [Int.neg_mul]

/-- How two floats stand to each other. -/
theorem order_eq {x y : Nat} (hx : x < 18446744073709551616) (hy : y < 18446744073709551616) :
    double.order x y = if nan x || nan y then none else some (compare (sv x) (sv y)) := by
  unfold Format.order
  have rx := reads hx
  have ry := reads hy
  generalize double.read x = dx at *
  generalize double.read y = dy at *
  have lx := rg_lt x
  have ly := rg_lt y
  cases rx with
  | nan f h => simp [Datum.order, nan, h]
  | inf h =>
    cases ry with
    | nan g k => simp [Datum.order, nan, k]
    | inf k =>
      simp only [Datum.order, nan, h, k, Nat.lt_irrefl, decide_false, Bool.or_false, Bool.false_eq_true, if_false, Option.some.injEq]
      unfold sv; rw [h, k]
      cases sg x <;> cases sg y <;> decide
    | num n j k hj hn =>
      have : ¬ 9218868437227405312 < rg y := by omega
      simp only [Datum.order, nan, h, this, Nat.lt_irrefl, decide_false, Bool.or_false, Bool.false_eq_true, if_false, Option.some.injEq]
      rw [cmp_eq]; unfold sv; rw [h]
      cases sg x <;> simp only [Bool.false_eq_true, if_false, if_true]
      · rw [if_neg (by split <;> omega), if_neg (by split <;> omega)]
      · rw [if_pos (by split <;> omega)]
  | num m i h hi hm =>
    have hxn : ¬ 9218868437227405312 < rg x := by omega
    cases ry with
    | nan g k => simp [Datum.order, nan, k]
    | inf k =>
      simp only [Datum.order, nan, hxn, k, Nat.lt_irrefl, decide_false, Bool.or_false, Bool.false_eq_true, if_false, Option.some.injEq]
      rw [cmp_eq]; unfold sv; rw [k]
      cases sg y <;> simp only [Bool.false_eq_true, if_false, if_true]
      · rw [if_pos (by split <;> omega)]
      · rw [if_neg (by split <;> omega), if_neg (by split <;> omega)]
    | num n j k hj hn =>
      have hyn : ¬ 9218868437227405312 < rg y := by omega
      simp only [Datum.order, nan, hxn, hyn, decide_false, Bool.or_false, Bool.false_eq_true, if_false, Option.some.injEq]
      rw [← cmp_mul _ _ (2 ^ (min i j + 1074).toNat) (Nat.two_pow_pos _), signed_mul _ m i _ (by omega) (by omega), signed_mul _ n j _ (by omega) (by omega), hm, hn]
      change compare (S x) (S y) = _
      exact cmp_congr (S_lt_iff x y) (S_eq_iff x y)
end Go.Proofs.Ytncnkfjddolabaa.Fl
