/- Floats of 64 bits: exact rounding, cutting down to a whole number, a whole number as a float, and one more. Plain laws on numbers; no program. -/
import Derived.Test.YtncnkfjddolabaaFl
namespace Go.Proofs.Ytncnkfjddolabaa.Fl
open Ieee

theorem two_pow_split {a b : Nat} (h : a ≤ b) : 2 ^ b = 2 ^ a * 2 ^ (b - a) := by rw [← Nat.pow_add]; congr 1; omega

theorem cut_parts (way : Toward) (neg : Bool) (n drop : Nat) :
    way.cut neg n drop = n / 2 ^ min drop (n.log2 + 2) + (match way with
      | .even => 2 ^ min drop (n.log2 + 2) < 2 * (n % 2 ^ min drop (n.log2 + 2)) || (2 ^ min drop (n.log2 + 2) == 2 * (n % 2 ^ min drop (n.log2 + 2)) && n / 2 ^ min drop (n.log2 + 2) % 2 == 1)
      | .down => neg && n % 2 ^ min drop (n.log2 + 2) != 0
      | .up => !neg && n % 2 ^ min drop (n.log2 + 2) != 0
      | .zero => false).toNat := by
  unfold Toward.cut
  simp only [Nat.one_shiftLeft]
  cases way <;> rfl

theorem lt_two_log (n : Nat) : n < 2 ^ (n.log2 + 2) := by
  by_cases h : n = 0
  · subst h; decide
  · have := (Nat.log2_lt h).1 (Nat.lt_succ_self n.log2)
    exact Nat.lt_of_lt_of_le this (pow_lt_of (by omega))

theorem div_cut (n drop : Nat) : n / 2 ^ min drop (n.log2 + 2) = n / 2 ^ drop := by
  by_cases h : drop ≤ n.log2 + 2
  · rw [Nat.min_eq_left h]
  · rw [Nat.min_eq_right (by omega), Nat.div_eq_of_lt (lt_two_log n), Nat.div_eq_of_lt (Nat.lt_of_lt_of_le (lt_two_log n) (pow_lt_of (by omega)))]
theorem mod_cut (n drop : Nat) : n % 2 ^ min drop (n.log2 + 2) = n % 2 ^ drop := by
  by_cases h : drop ≤ n.log2 + 2
  · rw [Nat.min_eq_left h]
  · rw [Nat.min_eq_right (by omega), Nat.mod_eq_of_lt (lt_two_log n), Nat.mod_eq_of_lt (Nat.lt_of_lt_of_le (lt_two_log n) (pow_lt_of (by omega)))]
theorem cut_down (neg : Bool) (n drop : Nat) : Toward.down.cut neg n drop = n / 2 ^ drop + (neg && n % 2 ^ drop != 0).toNat := by
  rw [cut_parts]; simp only [div_cut, mod_cut]
theorem cut_zero (neg : Bool) (n drop : Nat) : Toward.zero.cut neg n drop = n / 2 ^ drop := by
  rw [cut_parts]; simp only [div_cut, Bool.toNat_false, Nat.add_zero]
theorem cut_even_exact (neg : Bool) (c d : Nat) : Toward.even.cut neg (c * 2 ^ d) d = c := by
  rw [cut_parts]
  have h0 : c * 2 ^ d % 2 ^ min d ((c * 2 ^ d).log2 + 2) = 0 := by rw [mod_cut]; exact Nat.mul_mod_left _ _
  have hp := Nat.two_pow_pos (min d ((c * 2 ^ d).log2 + 2))
  simp only [h0, Nat.mul_zero, Nat.not_lt_zero, decide_false, Bool.false_or]
  have : (2 ^ min d ((c * 2 ^ d).log2 + 2) == 0) = false := by simp
  rw [this, Bool.false_and, Bool.toNat_false, Nat.add_zero, div_cut, Nat.mul_div_cancel _ (Nat.two_pow_pos d)]

theorem log2_mul_pow {c : Nat} (hc : c ≠ 0) (t : Nat) : (c * 2 ^ t).log2 = c.log2 + t := by
  have hne : c * 2 ^ t ≠ 0 := by have := Nat.two_pow_pos t; exact Nat.mul_ne_zero hc (by omega)
  rw [Nat.log2_eq_iff hne]
  have h1 := Nat.log2_self_le hc
  have h2 := (Nat.log2_lt hc).1 (Nat.lt_succ_self c.log2)
  refine ⟨by rw [Nat.pow_add]; exact Nat.mul_le_mul_right _ h1, ?_⟩
  rw [show c.log2 + t + 1 = (c.log2 + 1) + t by omega, Nat.pow_add]
  exact Nat.mul_lt_mul_of_pos_right h2 (Nat.two_pow_pos t)

/-- A finite float of a sign and a magnitude. -/
structure Fin (b : Nat) (neg : Bool) (u : Nat) : Prop where
  lt : b < 18446744073709551616
  sign : sg b = neg
  fin : rg b < 9218868437227405312
  mag : U (rg b) = u

theorem word_fin (neg : Bool) (r : Nat) (h : r < 9218868437227405312) : Fin (double.word neg r) neg (U r) := by
  unfold Format.word
  rw [c_sw]
  cases neg
  · have : rg r = r := by unfold rg; omega
    simp only [Bool.false_eq_true, if_false]
    exact ⟨by omega, by unfold sg; simp; omega, by omega, by rw [this]⟩
  · have : rg (9223372036854775808 + r) = r := by unfold rg; omega
    simp only [if_true]
    exact ⟨by omega, by unfold sg; simp, by omega, by rw [this]⟩

theorem U_rung {q k : Nat} (hk : k < 9007199254740992) (h : q = 0 ∨ 4503599627370496 ≤ k) : U (q * 4503599627370496 + k) = k * 2 ^ q := by
  unfold U
  by_cases h1 : q * 4503599627370496 + k < 4503599627370496
  · have : q = 0 := by omega
    subst this
    rw [if_pos h1]; simp
  · rw [if_neg h1]
    by_cases hq : q = 0
    · subst hq
      rw [show (0 * 4503599627370496 + k) / 4503599627370496 - 1 = 0 by omega]
      simp only [Nat.pow_zero, Nat.mul_one]; omega
    · have hk2 : 4503599627370496 ≤ k := by omega
      rw [show (q * 4503599627370496 + k) / 4503599627370496 - 1 = q by omega, show 4503599627370496 + (q * 4503599627370496 + k) % 4503599627370496 = k by omega]

theorem nearest_exact (neg : Bool) (c t : Nat) (place : Int) (hc : c < 9007199254740992) (hp : -1074 ≤ place) (hhi : place + t + c.log2 ≤ 1023) :
    Fin (double.nearest neg (c * 2 ^ t) place) neg (c * 2 ^ t * 2 ^ (place + 1074).toNat) := by
  unfold Format.nearest
  by_cases h0 : c = 0
  · subst h0
    simp only [Nat.zero_mul, if_true]
    have := word_fin neg 0 (by decide)
    rwa [U_zero] at this
  have hne : c * 2 ^ t ≠ 0 := by have := Nat.two_pow_pos t; exact Nat.mul_ne_zero h0 (by omega)
  rw [if_neg hne]
  simp only [c_frac, c_least, c_bin, c_inf, log2_mul_pow h0]
  have hl : c.log2 ≤ 52 := by
    have := (Nat.log2_lt h0 (k := 53)).2 hc; omega
  generalize hlast : max (place + ((c.log2 + t : Nat) : Int) - ((52 : Nat) : Int)) (-1074) = last
  have hlast1 : -1074 ≤ last := by omega
  have hlast2 : last ≤ 971 := by omega
  -- what is kept
  obtain ⟨kept, hk, hkm⟩ : ∃ kept, Toward.even.cut neg ((c * 2 ^ t) <<< (place - last).toNat) (last - place).toNat = kept ∧ kept * 2 ^ (last + 1074).toNat = c * 2 ^ t * 2 ^ (place + 1074).toNat := by
    by_cases hle : last ≤ place
    · refine ⟨c * 2 ^ t * 2 ^ (place - last).toNat, ?_, ?_⟩
      · rw [show (last - place).toNat = 0 by omega, Nat.shiftLeft_eq]
        have := cut_even_exact neg (c * 2 ^ t * 2 ^ (place - last).toNat) 0
        rwa [Nat.pow_zero, Nat.mul_one] at this
      · rw [Nat.mul_assoc _ (2 ^ _), ← Nat.pow_add, show (place - last).toNat + (last + 1074).toNat = (place + 1074).toNat by omega]
    · have hd : (last - place).toNat ≤ t := by omega
      refine ⟨c * 2 ^ (t - (last - place).toNat), ?_, ?_⟩
      · rw [show (place - last).toNat = 0 by omega, Nat.shiftLeft_eq, Nat.pow_zero, Nat.mul_one]
        rw [show c * 2 ^ t = c * 2 ^ (t - (last - place).toNat) * 2 ^ (last - place).toNat by rw [Nat.mul_assoc, ← Nat.pow_add]; congr 2; omega]
        exact cut_even_exact neg _ _
      · rw [Nat.mul_assoc, ← Nat.pow_add, Nat.mul_assoc, ← Nat.pow_add]; congr 2; omega
  rw [hk]
  have hc1 := Nat.log2_self_le h0
  have hc2 := (Nat.log2_lt h0).1 (Nat.lt_succ_self c.log2)
  -- its size
  have hb1 : kept < 9007199254740992 := by
    have e : kept * 2 ^ (last + 1074).toNat < 9007199254740992 * 2 ^ (last + 1074).toNat := by
      rw [hkm, show (9007199254740992 : Nat) = 2 ^ 53 by decide, Nat.mul_assoc, ← Nat.pow_add, ← Nat.pow_add]
      have : c * 2 ^ (t + (place + 1074).toNat) < 2 ^ (c.log2 + 1) * 2 ^ (t + (place + 1074).toNat) := Nat.mul_lt_mul_of_pos_right hc2 (Nat.two_pow_pos _)
      rw [← Nat.pow_add] at this
      exact Nat.lt_of_lt_of_le this (pow_lt_of (by omega))
    exact Nat.lt_of_mul_lt_mul_right e
  have hb2 : (last + 1074).toNat = 0 ∨ 4503599627370496 ≤ kept := by
    by_cases hz : last = -1074
    · left; omega
    · right
      have e : 4503599627370496 * 2 ^ (last + 1074).toNat ≤ kept * 2 ^ (last + 1074).toNat := by
        rw [hkm, show (4503599627370496 : Nat) = 2 ^ 52 by decide, Nat.mul_assoc, ← Nat.pow_add, ← Nat.pow_add]
        have : 2 ^ c.log2 * 2 ^ (t + (place + 1074).toNat) ≤ c * 2 ^ (t + (place + 1074).toNat) := Nat.mul_le_mul_right _ hc1
        rw [← Nat.pow_add] at this
        exact Nat.le_trans (pow_lt_of (by omega)) this
      exact Nat.le_of_mul_le_mul_right e (Nat.two_pow_pos _)
  rw [show (last - -1074).toNat = (last + 1074).toNat by congr 1]
  have hr : (last + 1074).toNat * 4503599627370496 + kept < 9218868437227405312 := by omega
  rw [Nat.min_eq_left (by omega)]
  have := word_fin neg _ hr
  rwa [U_rung hb1 hb2, hkm] at this

theorem exK : ∃ k : Nat, 0 < k ∧ ∀ a b : Nat, a + b = 1074 → 2 ^ a * 2 ^ b = k := by
  obtain ⟨e, he⟩ : ∃ e : Nat, e = 1074 := ⟨_, rfl⟩
  exact ⟨2 ^ e, Nat.two_pow_pos e, fun a b h => by rw [← he] at h; rw [← Nat.pow_add, h]⟩
/-- 2^1074. -/
noncomputable def K : Nat := Classical.choose exK
theorem K_pos : 0 < K := (Classical.choose_spec exK).1
theorem K_of {a b : Nat} (h : a + b = 1074) : 2 ^ a * 2 ^ b = K := (Classical.choose_spec exK).2 a b h

/-- A whole number of at most 2^53 as a float. -/
theorem whole_fin (neg : Bool) (q t : Nat) (hq : q ≤ 9007199254740992) (ht : t ≤ 1074) : Fin (double.nearest neg (q * 2 ^ t) (-(t : Int))) neg (q * K) := by
  have hk : 2 ^ t * 2 ^ (-(t : Int) + 1074).toNat = K := K_of (by omega)
  rcases Nat.lt_or_eq_of_le hq with h | h
  · have hl : q.log2 ≤ 52 := by
      by_cases h0 : q = 0
      · subst h0; decide
      · have := (Nat.log2_lt h0 (k := 53)).2 h; omega
    have := nearest_exact neg q t (-(t : Int)) h (by omega) (by omega)
    rwa [Nat.mul_assoc, hk] at this
  · subst h
    have hl1 : Nat.log2 1 = 0 := by decide
    have := nearest_exact neg 1 (53 + t) (-(t : Int)) (by decide) (by omega) (by rw [hl1]; omega)
    rw [Nat.one_mul, Nat.pow_add, Nat.mul_assoc, hk] at this
    exact this

theorem S_fin {b : Nat} {neg : Bool} {u : Nat} (h : Fin b neg u) : S b = if neg then -(u : Int) else u := by
  unfold S; rw [h.sign, h.mag]

theorem Reads.number {b : Nat} (h : b < 18446744073709551616) (hf : rg b < 9218868437227405312) :
    ∃ m p, double.read b = .number (sg b) m p ∧ -1074 ≤ p ∧ m * 2 ^ (p + 1074).toNat = U (rg b) := by
  have hr := reads h
  generalize double.read b = d at *
  cases hr with
  | num m p _ hp hm => exact ⟨m, p, rfl, hp, hm⟩
  | inf h => omega
  | nan f h => omega

/-- Cut down: the whole number that isn't above. -/
theorem floor_spec {b : Nat} (h : b < 18446744073709551616) (hf : rg b < 9218868437227405312) (hs : U (rg b) ≤ 9007199254740992 * K) :
    ∃ q : Nat, Fin (double.write ((double.read b).integral .down)) (sg b) (q * K) ∧ q ≤ 9007199254740992 ∧
      (if sg b then -(q : Int) else q) * K ≤ S b ∧ S b < ((if sg b then -(q : Int) else q) + 1) * K := by
  obtain ⟨m, p, hr, hp, hm⟩ := Reads.number h hf
  rw [hr]
  simp only [Datum.integral, Format.write, cut_down, Nat.shiftLeft_eq]
  have hS : S b = if sg b then -((m * 2 ^ (p + 1074).toNat : Nat) : Int) else ((m * 2 ^ (p + 1074).toNat : Nat) : Int) := by unfold S; rw [hm]
  rw [← hm] at hs
  generalize hN : m * 2 ^ p.toNat = n
  generalize hD : (-p).toNat = d
  -- the magnitude, in units: n * 2^(1074 - d)
  have hd : d ≤ 1074 := by omega
  have hK : 2 ^ d * 2 ^ (1074 - d) = K := K_of (by omega)
  have hu : m * 2 ^ (p + 1074).toNat = n * 2 ^ (1074 - d) := by
    rw [← hN, Nat.mul_assoc, ← Nat.pow_add]; congr 2; omega
  rw [hu] at hs hS
  have hdm := Nat.div_add_mod n (2 ^ d)
  have hml := Nat.mod_lt n (Nat.two_pow_pos d)
  generalize n / 2 ^ d = q0 at *
  generalize n % 2 ^ d = r0 at *
  have hpos := Nat.two_pow_pos (1074 - d)
  have hn1 : n * 2 ^ (1074 - d) = q0 * K + r0 * 2 ^ (1074 - d) := by
    rw [← hdm, Nat.add_mul, Nat.mul_comm (2 ^ d) q0, Nat.mul_assoc, hK]
  have hr1 : r0 * 2 ^ (1074 - d) < K := by rw [← hK]; exact Nat.mul_lt_mul_of_pos_right hml hpos
  rw [hn1] at hs hS
  have hr2 : r0 ≠ 0 → 0 < r0 * 2 ^ (1074 - d) := fun h => Nat.mul_pos (by omega) hpos
  generalize hx0 : r0 * 2 ^ (1074 - d) = x at *
  have hq0 : q0 ≤ 9007199254740992 := by
    rcases Nat.lt_or_ge 9007199254740992 q0 with h' | h'
    · have := Nat.mul_le_mul_right K h'
      have h2 : (9007199254740992 + 1) * K = 9007199254740992 * K + K := Nat.succ_mul _ _
      have := K_pos
      omega
    · exact h'
  have wf : ∀ q : Nat, q ≤ 9007199254740992 → Fin (double.nearest (sg b) q 0) (sg b) (q * K) := fun q hq => by
    have := whole_fin (sg b) q 0 hq (by decide)
    simpa using this
  cases hsg : sg b
  · simp only [hsg, Bool.false_and, Bool.toNat_false, Nat.add_zero, Bool.false_eq_true, if_false] at *
    refine ⟨q0, wf _ hq0, hq0, ?_, ?_⟩
    · rw [hS]; push_cast; omega
    · rw [hS, Int.add_mul]; push_cast; omega
  · simp only [hsg, Bool.true_and, if_true] at *
    by_cases hz : r0 = 0
    · subst hz
      have hx : x = 0 := by rw [← hx0, Nat.zero_mul]
      subst hx
      refine ⟨q0, by simpa using wf _ hq0, hq0, ?_, ?_⟩
      · rw [hS, Int.neg_mul]; push_cast; omega
      · have := K_pos; rw [hS, Int.add_mul, Int.neg_mul]; push_cast; omega
    · have hx := hr2 hz
      have e : (r0 != 0) = true := by simpa using hz
      have hq1 : q0 + 1 ≤ 9007199254740992 := by
        rcases Nat.lt_or_ge q0 9007199254740992 with h' | h'
        · omega
        · have : q0 = 9007199254740992 := by omega
          subst this; omega
      rw [e]
      refine ⟨q0 + 1, wf _ hq1, hq1, ?_, ?_⟩
      · have : ((q0 : Int) + 1) * K = q0 * K + K := by rw [Int.add_mul, Int.one_mul]
        rw [hS, Int.neg_mul]; push_cast; omega
      · have : ((q0 : Int) + 1) * K = q0 * K + K := by rw [Int.add_mul, Int.one_mul]
        rw [hS, Int.add_mul, Int.neg_mul]; push_cast; omega

/-- A float that is a whole number, as that number. -/
theorem toInt_whole {b : Nat} {neg : Bool} {q : Nat} (h : Fin b neg (q * K)) : (double.read b).toInt .zero = some (if neg then -(q : Int) else q) := by
  obtain ⟨m, p, hr, hp, hm⟩ := Reads.number h.lt h.fin
  rw [hr, h.sign]
  rw [h.mag] at hm
  simp only [Datum.toInt, Datum.integral, cut_zero, Nat.shiftLeft_eq, signed]
  have hq : m * 2 ^ p.toNat / 2 ^ (-p).toNat = q := by
    have hK : 2 ^ (-p).toNat * 2 ^ (1074 - (-p).toNat) = K := K_of (by omega)
    have hu : m * 2 ^ (p + 1074).toNat = m * 2 ^ p.toNat * 2 ^ (1074 - (-p).toNat) := by
      rw [Nat.mul_assoc, ← Nat.pow_add]; congr 2; omega
    rw [hu, ← hK, ← Nat.mul_assoc] at hm
    have := Nat.eq_of_mul_eq_mul_right (Nat.two_pow_pos _) hm
    rw [this, Nat.mul_div_cancel _ (Nat.two_pow_pos _)]
  rw [hq, Nat.pow_zero, Nat.mul_one]

/-- One more. -/
theorem add_one {b : Nat} {neg : Bool} {q : Nat} (h : Fin b neg (q * K)) (hq : q ≤ 9007199254740992) (hq2 : neg = false → q < 9007199254740992) :
    ∃ r neg' q', double.add b 4607182418800017408 = some r ∧ Fin r neg' (q' * K) ∧ (if neg' then -(q' : Int) else q') = (if neg then -(q : Int) else q) + 1 := by
  obtain ⟨m, i, hr, hp, hm⟩ := Reads.number h.lt h.fin
  have h1 : double.read 4607182418800017408 = .number false 4503599627370496 (-52) := by decide +kernel
  unfold Format.add
  rw [hr, h1, h.sign]
  rw [h.mag] at hm
  simp only [Datum.sum, Option.map_some, Format.write, Bool.and_false]
  generalize hbase : min i (-52) = base
  have hb1 : base ≤ -52 := by omega
  have hb2 : -1074 ≤ base := by omega
  generalize hT : signed neg m (i - base).toNat + signed false 4503599627370496 (-52 - base).toNat = total
  -- the sum, in units
  have hsum : total * ((2 ^ (base + 1074).toNat : Nat) : Int) = ((if neg then -(q : Int) else q) + 1) * K := by
    rw [← hT, Int.add_mul, signed_mul neg m i base (by omega) hb2, signed_mul false _ (-52) base (by omega) hb2, hm]
    obtain ⟨z, hz⟩ : ∃ z, z = ((-52 : Int) + 1074).toNat := ⟨_, rfl⟩
    have e : 4503599627370496 * 2 ^ z = K := by
      rw [show (4503599627370496 : Nat) = 2 ^ 52 by decide]
      exact K_of (by omega)
    rw [← hz, e, Int.add_mul]
    cases neg <;> simp [Int.neg_mul]
  have hK : ((2 ^ (-base).toNat * 2 ^ (base + 1074).toNat : Nat) : Int) = K := by rw [K_of (by omega)]
  have htot : total = ((if neg then -(q : Int) else q) + 1) * ((2 ^ (-base).toNat : Nat) : Int) := by
    rw [← hK] at hsum
    push_cast at hsum ⊢
    rw [← Int.mul_assoc] at hsum
    refine Int.eq_of_mul_eq_mul_right ?_ hsum
    have := Nat.two_pow_pos (base + 1074).toNat
    have h2 : ((2 ^ (base + 1074).toNat : Nat) : Int) ≠ 0 := by omega
    simpa using h2
  generalize hw : (if neg then -(q : Int) else q) + 1 = w1 at *
  have hwb : w1.natAbs ≤ 9007199254740992 := by
    subst hw
    cases neg
    · have := hq2 rfl; simp; omega
    · simp; omega
  have habs : total.natAbs = w1.natAbs * 2 ^ (-base).toNat := by rw [htot, Int.natAbs_mul, Int.natAbs_natCast]
  rw [habs]
  have hbe : base = -(((-base).toNat : Nat) : Int) := by omega
  have hex := whole_fin (if total = 0 then false else decide (total < 0)) w1.natAbs (-base).toNat hwb (by omega)
  rw [← hbe] at hex
  refine ⟨_, decide (total < 0), w1.natAbs, rfl, ?_, ?_⟩
  · have : (if total = 0 then false else decide (total < 0)) = decide (total < 0) := by
      split
      · rename_i h0; rw [h0]; decide
      · rfl
    rw [this] at hex ⊢
    exact hex
  · have hs : total < 0 ↔ w1 < 0 := by
      rw [htot]
      have hp2 : (0 : Int) < ((2 ^ (-base).toNat : Nat) : Int) := by have := Nat.two_pow_pos (-base).toNat; omega
      constructor
      · intro h
        rcases Int.lt_or_le w1 0 with h' | h'
        · exact h'
        · have := Int.mul_nonneg h' (Int.le_of_lt hp2); omega
      · intro h; exact Int.mul_neg_of_neg_of_pos h hp2
    simp only [hs, decide_eq_true_eq]
    split <;> omega
end Go.Proofs.Ytncnkfjddolabaa.Fl
