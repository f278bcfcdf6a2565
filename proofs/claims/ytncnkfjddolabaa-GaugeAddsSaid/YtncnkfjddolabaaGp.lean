/- The plain laws of gauges: the keys of floats, the K least of a row of keys, and what order is between floats. No program beyond the bits' functions of the elder texts. -/
import Derived.Test.YtncnkfjddolabaaFlc
import Derived.Laws.Bits64
import Derived.Laws.Bits64b
set_option linter.unusedVariables false
set_option linter.unusedSimpArgs false
namespace Go.Proofs.Ytncnkfjddolabaa
open Go Go.RowKit

/-! ### 1. The row of keys: the least K, as often as they came -/
namespace Gg
def ins (h : Int) : List Int → List Int
  | [] => [h]
  | x :: xs => if h < x then h :: x :: xs else x :: ins h xs
theorem ins_take (h : Int) : ∀ (xs : List Int) (K : Nat), (ins h (xs.take K)).take K = (ins h xs).take K
  | xs, 0 => by simp
  | [], k + 1 => by simp
  | x :: xs, k + 1 => by
    rw [List.take_succ_cons, ins, ins]
    split
    · rw [List.take_succ_cons, List.take_succ_cons]
      cases k with
      | zero => simp
      | succ k => simp [List.take_take]
    · rw [List.take_succ_cons, List.take_succ_cons, ins_take h xs k]
theorem all_take (K : Nat) : ∀ (hs a : List Int), hs.foldl (fun zs h => (ins h zs).take K) (a.take K) = (hs.foldl (fun zs h => ins h zs) a).take K
  | [], a => rfl
  | h :: hs, a => by rw [List.foldl_cons, List.foldl_cons, ins_take, all_take K hs]
theorem ins_perm (h : Int) : ∀ xs, (ins h xs).Perm (h :: xs)
  | [] => List.Perm.refl _
  | x :: xs => by
    rw [ins]
    split
    · exact List.Perm.refl _
    · exact ((ins_perm h xs).cons x).trans (List.Perm.swap _ _ _)
theorem fold_perm : ∀ (hs a : List Int), (hs.foldl (fun zs h => ins h zs) a).Perm (hs ++ a)
  | [], a => List.Perm.refl _
  | h :: hs, a => by
    rw [List.foldl_cons]
    refine (fold_perm hs (ins h a)).trans ?_
    refine ((ins_perm h a).append_left hs).trans ?_
    rw [List.cons_append]
    exact List.perm_middle
theorem ins_rises (h : Int) : ∀ xs, xs.Pairwise (· ≤ ·) → (ins h xs).Pairwise (· ≤ ·)
  | [], _ => by simp [ins]
  | x :: xs, hp => by
    obtain ⟨h1, h2⟩ := List.pairwise_cons.1 hp
    rw [ins]
    split
    · rename_i hx
      refine List.pairwise_cons.2 ⟨fun y hy => ?_, hp⟩
      rcases List.mem_cons.1 hy with rfl | hy
      · omega
      · have := h1 y hy; omega
    · rename_i hx
      refine List.pairwise_cons.2 ⟨fun y hy => ?_, ins_rises h xs h2⟩
      rcases List.mem_cons.1 ((ins_perm h xs).mem_iff.1 hy) with rfl | hy
      · omega
      · exact h1 y hy
theorem fold_rises : ∀ (hs a : List Int), a.Pairwise (· ≤ ·) → (hs.foldl (fun zs h => ins h zs) a).Pairwise (· ≤ ·)
  | [], a, h => h
  | h :: hs, a, ha => fold_rises hs _ (ins_rises h a ha)
/-- A sorted row of the same keys is the folded one. -/
theorem fold_eq (hs ys : List Int) (hp : ys.Perm hs) (hr : ys.Pairwise (· ≤ ·)) : hs.foldl (fun zs h => ins h zs) [] = ys := by
  refine List.Perm.eq_of_pairwise (le := (· ≤ ·)) (fun a b _ _ h1 h2 => by omega) (fold_rises hs [] List.Pairwise.nil) hr ?_
  have := fold_perm hs []
  rw [List.append_nil] at this
  exact this.trans hp.symm
end Gg

/-! ### 2. Keys -/
namespace Fl
theorem or_top (b : Nat) (hb : b < 9223372036854775808) : b ||| 9223372036854775808 = b + 9223372036854775808 := by
  apply Nat.eq_of_testBit_eq
  intro i
  rw [Nat.testBit_or, show (9223372036854775808 : Nat) = 2 ^ 63 by decide, Nat.testBit_two_pow, Nat.add_comm b]
  rcases Nat.lt_trichotomy i 63 with h | h | h
  · have h' : ¬ 63 = i := by omega
    rw [Nat.testBit_two_pow_add_gt h]; simp [h']
  · subst h; rw [Nat.testBit_two_pow_add_eq, Nat.testBit_lt_two_pow hb]; decide
  · have h1 : b < 2 ^ i := Nat.lt_of_lt_of_le hb (Nat.le_trans (show 9223372036854775808 ≤ 2 ^ 63 by decide) (Nat.pow_le_pow_right (by decide) (by omega)))
    have h2 : 2 ^ 63 + b < 2 ^ i := Nat.lt_of_lt_of_le (show 2 ^ 63 + b < 2 ^ 64 by omega) (Nat.pow_le_pow_right (by decide) (by omega))
    have h' : ¬ 63 = i := by omega
    rw [Nat.testBit_lt_two_pow h1, Nat.testBit_lt_two_pow h2]; simp [h']
theorem and_top (b : Nat) (hb : b < 18446744073709551616) : b &&& 9223372036854775808 = if 9223372036854775808 ≤ b then 9223372036854775808 else 0 := by
  apply Nat.eq_of_testBit_eq
  intro i
  have e : (9223372036854775808 : Nat) = 2 ^ 63 := by decide
  rw [Nat.testBit_and, e, Nat.testBit_two_pow]
  by_cases h : 63 = i
  · subst h
    simp only [decide_true, Bool.and_true]
    by_cases hb2 : 2 ^ 63 ≤ b
    · rw [if_pos hb2, Nat.testBit_two_pow_self]
      obtain ⟨c, rfl⟩ : ∃ c, b = 2 ^ 63 + c := ⟨b - 2 ^ 63, by omega⟩
      rw [Nat.testBit_two_pow_add_eq, Nat.testBit_lt_two_pow (by omega)]; decide
    · rw [if_neg hb2, Nat.zero_testBit, Nat.testBit_lt_two_pow (by omega)]
  · simp only [h, decide_false, Bool.and_false]
    split
    · rw [Nat.testBit_two_pow]; simp [h]
    · rw [Nat.zero_testBit]
theorem xor_all (b : Nat) (hb : b < 18446744073709551616) : 18446744073709551615 ^^^ b = 18446744073709551615 - b := by
  apply Nat.eq_of_testBit_eq
  intro i
  rw [Nat.testBit_xor, show (18446744073709551615 : Nat) = 2 ^ 64 - 1 by decide, Nat.testBit_two_pow_sub_one, show 2 ^ 64 - 1 - b = 2 ^ 64 - (b + 1) by omega, Nat.testBit_two_pow_sub_succ (by omega)]
  by_cases h : i < 64
  · simp [h]
  · have : b < 2 ^ i := Nat.lt_of_lt_of_le (show b < 2 ^ 64 by omega) (Nat.pow_le_pow_right (by decide) (by omega))
    simp [h, Nat.testBit_lt_two_pow this]

theorem keyT_eq {b : Nat} (hb : b < 18446744073709551616) :
    keyT b = if nan b then 18444492273895866369 else if sg b then 18446744073709551615 - (b : Int) else (b : Int) + 9223372036854775808 := by
  have ha := bits_and_u64_nat b 9223372036854775808 hb (by decide)
  have ho := bits_or_u64_nat b 9223372036854775808 hb (by decide)
  have hx := bits_xor_u64_nat 18446744073709551615 b (by decide) hb
  rw [and_top b hb] at ha
  rw [xor_all b hb] at hx
  unfold keyT isnanT ord
  rw [t_ne hb]
  cases nan b
  · simp only [Bool.false_eq_true, if_false]
    have ha' : bits .and .u64 (b : Int) 9223372036854775808 = ((if 9223372036854775808 ≤ b then 9223372036854775808 else 0 : Nat) : Int) := ha
    have ho' : bits .or .u64 (b : Int) 9223372036854775808 = ((b ||| 9223372036854775808 : Nat) : Int) := ho
    have hx' : bits .xor .u64 IntKind.u64.max (b : Int) = ((18446744073709551615 - b : Nat) : Int) := hx
    rw [ha', hx', ho']
    unfold sg
    by_cases h : 9223372036854775808 ≤ b
    · simp [h]; omega
    · rw [or_top b (by omega)]
      simp [h]
  · simp
theorem keyT_lt {b : Nat} (hb : b < 18446744073709551616) : 0 ≤ keyT b ∧ keyT b < 18446744073709551616 := by
  rw [keyT_eq hb]; unfold sg
  repeat' split
  all_goals (simp_all <;> omega)

/-- Where a float stands, all of them. -/
def plT (b : Nat) : Int := if b = 0 then 3 else if b = 9223372036854775808 then 2 else placeU b
theorem plT_eq {b : Nat} (hb : b < 18446744073709551616) :
    plT b = if nan b then 6 else if 9218868437227405311 < sv b then 5 else if sv b < -9218868437227405311 then 0 else if sv b = 0 then (if sg b then 2 else 3) else if 0 < sv b then 4 else 1 := by
  unfold plT
  by_cases h0 : b = 0
  · subst h0; decide
  · by_cases h1 : b = 9223372036854775808
    · subst h1; decide
    · rw [if_neg h0, if_neg h1, place_eq hb]
      have hz : sv b ≠ 0 := by
        unfold sv sg rg
        split <;> rename_i h <;> simp only [decide_eq_true_eq] at h <;> omega
      simp only [hz, if_false]
theorem key_sv {b : Nat} (hb : b < 18446744073709551616) (hn : nan b = false) :
    (sg b = true ∧ keyT b = 9223372036854775807 + sv b ∧ -9218868437227405312 ≤ sv b ∧ sv b ≤ 0) ∨ (sg b = false ∧ keyT b = 9223372036854775808 + sv b ∧ 0 ≤ sv b ∧ sv b ≤ 9218868437227405312) := by
  rw [keyT_eq hb, hn]
  unfold nan rg at hn
  simp only [decide_eq_false_iff_not] at hn
  unfold sv rg
  cases h : sg b
  · unfold sg at h
    simp only [decide_eq_false_iff_not] at h
    simp only [Bool.false_eq_true, if_false]
    exact .inr ⟨trivial, by omega, by omega, by omega⟩
  · unfold sg at h
    simp only [decide_eq_true_eq] at h
    simp only [Bool.false_eq_true, if_false, if_true]
    exact .inl ⟨trivial, by omega, by omega, by omega⟩
/-- A float's place, key and row. -/
theorem pl_cases {b : Nat} (hb : b < 18446744073709551616) (hn : nan b = false) :
    (plT b = 0 ∧ sv b = -9218868437227405312 ∧ keyT b = 9223372036854775807 + sv b) ∨ (plT b = 1 ∧ -9218868437227405312 < sv b ∧ sv b < 0 ∧ keyT b = 9223372036854775807 + sv b) ∨ (plT b = 2 ∧ sv b = 0 ∧ keyT b = 9223372036854775807 + sv b) ∨
    (plT b = 3 ∧ sv b = 0 ∧ keyT b = 9223372036854775808 + sv b) ∨ (plT b = 4 ∧ 0 < sv b ∧ sv b < 9218868437227405312 ∧ keyT b = 9223372036854775808 + sv b) ∨ (plT b = 5 ∧ sv b = 9218868437227405312 ∧ keyT b = 9223372036854775808 + sv b) := by
  have hp := plT_eq hb
  rw [hn] at hp
  simp only [Bool.false_eq_true, if_false] at hp
  rcases key_sv hb hn with ⟨h1, h2, h3, h4⟩ | ⟨h1, h2, h3, h4⟩
  · rw [h1] at hp
    simp only [if_true] at hp
    by_cases c1 : sv b < -9218868437227405311
    · rw [if_neg (by omega), if_pos c1] at hp
      left; omega
    · by_cases c2 : sv b = 0
      · rw [if_neg (by omega), if_neg c1, if_pos c2] at hp
        right; right; left; omega
      · rw [if_neg (by omega), if_neg c1, if_neg c2, if_neg (by omega)] at hp
        right; left; omega
  · rw [h1] at hp
    simp only [Bool.false_eq_true, if_false] at hp
    by_cases c1 : 9218868437227405311 < sv b
    · rw [if_pos c1] at hp
      right; right; right; right; right; omega
    · by_cases c2 : sv b = 0
      · rw [if_neg c1, if_neg (by omega), if_pos c2] at hp
        right; right; right; left; omega
      · rw [if_neg c1, if_neg (by omega), if_neg c2, if_pos (by omega)] at hp
        right; right; right; right; left; omega
theorem key_nan {b : Nat} (hb : b < 18446744073709551616) (hn : nan b = true) : keyT b = 18444492273895866369 ∧ plT b = 6 := by
  rw [keyT_eq hb, plT_eq hb, hn]
  exact ⟨by simp, by simp⟩
set_option maxHeartbeats 2000000 in
/-- The document's order is that of the keys. -/
theorem less_law {a b : Nat} (ha : a < 18446744073709551616) (hb : b < 18446744073709551616) :
    (if plT a = plT b then (FloatKind.f64.format.order a b == some Ordering.lt) else decide (plT a < plT b)) = decide (keyT a < keyT b) := by
  cases hna : nan a
  · have A := pl_cases ha hna
    cases hnb : nan b
    · have B := pl_cases hb hnb
      rw [t_lt ha hb hnb, hna]
      simp only [Bool.not_false, Bool.true_and]
      generalize sv a = x at *
      generalize sv b = y at *
      generalize plT a = p at *
      generalize plT b = q at *
      generalize keyT a = k at *
      generalize keyT b = l at *
      by_cases h : p = q
      · rw [if_pos h, decide_eq_decide]
        rcases A with A | A | A | A | A | A <;> omega
      · rw [if_neg h, decide_eq_decide]
        rcases A with A | A | A | A | A | A <;> omega
    · obtain ⟨k1, k2⟩ := key_nan hb hnb
      rw [k1, k2, if_neg (by rcases A with A | A | A | A | A | A <;> omega), decide_eq_decide]
      rcases A with A | A | A | A | A | A <;> omega
  · obtain ⟨k1, k2⟩ := key_nan ha hna
    cases hnb : nan b
    · have B := pl_cases hb hnb
      rw [k1, k2, if_neg (by rcases B with A | A | A | A | A | A <;> omega), decide_eq_decide]
      rcases B with A | A | A | A | A | A <;> omega
    · obtain ⟨k3, k4⟩ := key_nan hb hnb
      rw [k1, k2, k3, k4]
      have : FloatKind.f64.format.order a b = none := by
        rw [show FloatKind.f64.format.order a b = Ieee.double.order a b from rfl, order_eq ha hb, hna]; simp
      simp [this]

/-- The float of a key. -/
def ofT (k : Int) : Nat := (if bits .and .u64 k 9223372036854775808 == 0 then bits .xor .u64 IntKind.u64.max k else bits .andNot .u64 k 9223372036854775808).toNat
def cq (b : Nat) : Nat := if nan b then 9221120237041090561 else b
theorem keyT_cq {b : Nat} (hb : b < 18446744073709551616) : keyT (cq b) = keyT b := by
  unfold cq
  split
  · rename_i h
    have hn : nan 9221120237041090561 = true := by decide
    rw [keyT_eq hb, h, keyT_eq (by decide), hn]; simp
  · rfl
theorem cq_lt {b : Nat} (hb : b < 18446744073709551616) : cq b < 18446744073709551616 := by
  unfold cq; split
  · exact of_decide_eq_true rfl
  · exact hb
theorem andNot_nat (a b : Nat) (ha : a < 18446744073709551616) (hb : b < 18446744073709551616) : bits .andNot .u64 (a : Int) (b : Int) = ((a &&& (18446744073709551615 - b) : Nat) : Int) := by
  have hx : a &&& (18446744073709551615 - b) < 2 ^ 64 := Nat.and_lt_two_pow _ (by omega)
  have h1 : (BitVec.ofInt 64 (a : Int)).toNat = a := by
    rw [BitVec.ofInt_natCast, BitVec.toNat_ofNat]; exact Nat.mod_eq_of_lt (by omega)
  have h2 : (BitVec.ofInt 64 (b : Int)).toNat = b := by
    rw [BitVec.ofInt_natCast, BitVec.toNat_ofNat]; exact Nat.mod_eq_of_lt (by omega)
  show IntKind.u64.wrap ((BitVec.ofInt 64 (a : Int) &&& ~~~BitVec.ofInt 64 (b : Int)).toNat : Int) = _
  rw [BitVec.toNat_and, BitVec.toNat_not, h1, h2, IntKind.wrap_u64, show 2 ^ 64 - 1 - b = 18446744073709551615 - b by omega]
  omega
theorem andNot_top (k : Nat) (hk : k < 18446744073709551616) (h : 9223372036854775808 ≤ k) : bits .andNot .u64 (k : Int) 9223372036854775808 = ((k - 9223372036854775808 : Nat) : Int) := by
  have h1 := andNot_nat k 9223372036854775808 hk (by decide)
  rw [show 18446744073709551615 - 9223372036854775808 = 2 ^ 63 - 1 by decide, Nat.and_two_pow_sub_one_eq_mod] at h1
  refine Eq.trans h1 ?_
  omega
theorem ofT_hi (k : Nat) (hk : k < 18446744073709551616) (h : 9223372036854775808 ≤ k) : ofT k = k - 9223372036854775808 := by
  have ha := bits_and_u64_nat k 9223372036854775808 hk (by decide)
  rw [and_top k hk, if_pos h] at ha
  have ha' : (bits .and .u64 (k : Int) 9223372036854775808 == 0) = false := by
    refine beq_eq_false_iff_ne.2 (fun e => ?_)
    rw [show bits .and .u64 (k : Int) 9223372036854775808 = ((9223372036854775808 : Nat) : Int) from ha] at e
    omega
  unfold ofT
  rw [ha', andNot_top k hk h, if_neg (by simp)]
  exact Int.toNat_natCast _
theorem ofT_lo (k : Nat) (h : k < 9223372036854775808) : ofT k = 18446744073709551615 - k := by
  have ha := bits_and_u64_nat k 9223372036854775808 (by omega) (by decide)
  have hx := bits_xor_u64_nat 18446744073709551615 k (by decide) (by omega)
  rw [and_top k (by omega), if_neg (by omega)] at ha
  rw [xor_all k (by omega)] at hx
  have ha' : (bits .and .u64 (k : Int) 9223372036854775808 == 0) = true := by
    rw [show bits .and .u64 (k : Int) 9223372036854775808 = ((0 : Nat) : Int) from ha]; rfl
  unfold ofT
  rw [ha', show bits .xor .u64 IntKind.u64.max (k : Int) = ((18446744073709551615 - k : Nat) : Int) from hx, if_pos rfl]
  exact Int.toNat_natCast _
theorem ofT_key {b : Nat} (hb : b < 18446744073709551616) : ofT (keyT b) = cq b := by
  obtain ⟨k, hk⟩ : ∃ k : Nat, (k : Int) = keyT b := ⟨(keyT b).toNat, by have := keyT_lt hb; omega⟩
  have hkl : k < 18446744073709551616 := by have := keyT_lt hb; omega
  rw [← hk]
  have hK := keyT_eq hb
  rw [← hk] at hK
  unfold cq
  cases hnb : nan b
  · rw [hnb] at hK
    rw [if_neg (by simp)] at hK ⊢
    cases hs : sg b
    · rw [hs, if_neg (by simp)] at hK
      unfold sg at hs
      have hs := of_decide_eq_false hs
      rw [ofT_hi k hkl (by omega)]; omega
    · rw [hs, if_pos rfl] at hK
      unfold sg at hs
      have hs := of_decide_eq_true hs
      rw [ofT_lo k (by omega)]; omega
  · rw [hnb, if_pos rfl] at hK
    rw [if_pos rfl, ofT_hi k hkl (by omega)]
    omega
theorem nan_cq {b : Nat} : nan (cq b) = nan b := by
  unfold cq
  split
  · rename_i h; rw [h]; decide
  · rfl

/-- The lesser, the greater. -/
def minT (a b : Nat) : Nat := if keyT b < keyT a then b else a
def maxT (a b : Nat) : Nat := if keyT a < keyT b then b else a
end Fl
end Go.Proofs.Ytncnkfjddolabaa
