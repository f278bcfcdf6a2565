/- The plain law of the stable sort: what a rotation, a search, a merge and rows of blocks come to. No program. -/
import Derived.Test.YtncnkfjddolabaaSw
set_option linter.unusedVariables false
set_option linter.unusedSimpArgs false
set_option linter.unusedSectionVars false
namespace Go.Proofs.Ytncnkfjddolabaa
open Go Go.Sort

section
variable {α : Type} [Inhabited α] {lt : α → α → Bool} {f : Nat → α} {a b c d m s e i j : Nat}

/-- Sorted from a place up to another one. -/
def SF (lt : α → α → Bool) (f : Nat → α) (a b : Nat) : Prop := ∀ i j, a ≤ i → i < j → j < b → lt (f j) (f i) = false
/-- Nothing of the second part is less than anything of the first. -/
def LEF (lt : α → α → Bool) (f : Nat → α) (a b c d : Nat) : Prop := ∀ i j, a ≤ i → i < b → c ≤ j → j < d → lt (f j) (f i) = false

theorem SF.of (d : Array α) : SF lt (at! d) a b ↔ SortedIn lt a b d := Iff.rfl
theorem SF.le (hS : SWO lt) (h : SF lt f a b) (h1 : a ≤ i) (h2 : i ≤ j) (h3 : j < b) : lt (f j) (f i) = false := by
  rcases Nat.lt_or_ge i j with h' | h'
  · exact h i j h1 h' h3
  · obtain rfl : i = j := by omega
    exact hS.irrefl _
theorem SF.glue (h : SF lt f a m) (k : SF lt f m b) (l : LEF lt f a m m b) : SF lt f a b := fun i j h1 h2 h3 => by
  by_cases c1 : j < m
  · exact h i j h1 h2 c1
  · by_cases c2 : i < m
    · exact l i j h1 c2 (by omega) h3
    · exact k i j (by omega) h2 h3
theorem SF.part (h : SF lt f a b) (h1 : a ≤ c) (h2 : d ≤ b) : SF lt f c d := fun i j x y z => h i j (by omega) y (by omega)
theorem SF.empty (h : b ≤ a + 1) : SF lt f a b := fun i j x y z => by omega

theorem rot_lo {x : Nat} (h : x < s) (h1 : s ≤ m) (h2 : m ≤ e) : rotF f s m e x = f x := by unfold rotF; rw [if_neg (by omega), if_neg (by omega)]
theorem rot_a {x : Nat} (h1 : s ≤ x) (h2 : x < s + (e - m)) : rotF f s m e x = f (x + (m - s)) := by unfold rotF; rw [if_pos ⟨h1, h2⟩]
theorem rot_b {x : Nat} (h1 : s + (e - m) ≤ x) (h2 : x < e) : rotF f s m e x = f (x - (e - m)) := by unfold rotF; rw [if_neg (by omega), if_pos ⟨h1, h2⟩]
theorem rot_hi {x : Nat} (h : e ≤ x) (h1 : s ≤ m) (h2 : m ≤ e) : rotF f s m e x = f x := by unfold rotF; rw [if_neg (by omega), if_neg (by omega)]

/-- What a rotation leaves. -/
structure Halves (lt : α → α → Bool) (g : Nat → α) (a s mid e b : Nat) : Prop where
  p1 : SF lt g a s
  p2 : SF lt g s mid
  p3 : SF lt g mid e
  p4 : SF lt g e b
  le : LEF lt g a mid mid b

theorem rot_halves {mid : Nat} (has : a ≤ s) (hsm : s ≤ m) (hme : m ≤ e) (heb : e ≤ b) (Sa : SF lt f a m) (Sb : SF lt f m b) (A : LEF lt f a s e b) (B : LEF lt (fun x => f x) m e s m ∨ ∀ x y, m ≤ x → x < e → s ≤ y → y < m → lt (f y) (f x) = false)
    (hmid : mid = s + (e - m)) : Halves lt (rotF f s m e) a s mid e b := by
  subst hmid
  have B' : ∀ x y, m ≤ x → x < e → s ≤ y → y < m → lt (f y) (f x) = false := fun x y h1 h2 h3 h4 => B.elim (fun h => h x y h1 h2 h3 h4) (fun h => h x y h1 h2 h3 h4)
  refine ⟨fun i j h1 h2 h3 => ?_, fun i j h1 h2 h3 => ?_, fun i j h1 h2 h3 => ?_, fun i j h1 h2 h3 => ?_, fun i j h1 h2 h3 h4 => ?_⟩
  · rw [rot_lo (by omega) hsm hme, rot_lo (by omega) hsm hme]; exact Sa i j h1 h2 (by omega)
  · rw [rot_a (by omega) (by omega), rot_a (by omega) (by omega)]; exact Sb _ _ (by omega) (by omega) (by omega)
  · rw [rot_b (by omega) (by omega), rot_b (by omega) (by omega)]; exact Sa _ _ (by omega) (by omega) (by omega)
  · rw [rot_hi (by omega) hsm hme, rot_hi (by omega) hsm hme]; exact Sb i j (by omega) h2 h3
  · by_cases c1 : i < s <;> by_cases c2 : j < e
    · rw [rot_lo (x := i) c1 hsm hme, rot_b (x := j) (by omega) c2]; exact Sa _ _ h1 (by omega) (by omega)
    · rw [rot_lo (x := i) c1 hsm hme, rot_hi (x := j) (by omega) hsm hme]; exact A _ _ h1 c1 (by omega) h4
    · rw [rot_a (x := i) (by omega) (by omega), rot_b (x := j) (by omega) c2]; exact B' _ _ (by omega) (by omega) (by omega) (by omega)
    · rw [rot_a (x := i) (by omega) (by omega), rot_hi (x := j) (by omega) hsm hme]; exact Sb _ _ (by omega) (by omega) h4

/-! ### A search by halves -/
structure Srch (q : Nat → Bool) (lo hi i j : Nat) : Prop where
  a : lo ≤ i
  b : i ≤ j
  c : j ≤ hi
  yes : ∀ x, lo ≤ x → x < i → q x = true
  no : ∀ x, j ≤ x → x < hi → q x = false
def Falls (q : Nat → Bool) (lo hi : Nat) : Prop := ∀ x y, lo ≤ x → x ≤ y → y < hi → q y = true → q x = true
theorem Srch.start {q : Nat → Bool} {lo hi : Nat} (h : lo ≤ hi) : Srch q lo hi lo hi := ⟨Nat.le_refl _, h, Nat.le_refl _, fun _ _ _ => by omega, fun _ _ _ => by omega⟩
theorem Srch.up {q : Nat → Bool} {lo hi i j h : Nat} (H : Srch q lo hi i j) (M : Falls q lo hi) (h1 : i ≤ h) (h2 : h < j) (hq : q h = true) : Srch q lo hi (h + 1) j :=
  ⟨by have := H.a; omega, h2, H.c, fun x x1 x2 => M x h x1 (by omega) (by have := H.c; omega) hq, H.no⟩
theorem Srch.down {q : Nat → Bool} {lo hi i j h : Nat} (H : Srch q lo hi i j) (M : Falls q lo hi) (h1 : i ≤ h) (h2 : h < j) (hq : q h = false) : Srch q lo hi i h :=
  ⟨H.a, h1, by have := H.c; omega, H.yes, fun x x1 x2 => by
    cases e : q x with
    | false => rfl
    | true => rw [M h x (by have := H.a; omega) x1 x2 e] at hq; cases hq⟩

/-- The three searches' questions. -/
def q1 (lt : α → α → Bool) (f : Nat → α) (a : Nat) : Nat → Bool := fun h => lt (f h) (f a)
def q2 (lt : α → α → Bool) (f : Nat → α) (m : Nat) : Nat → Bool := fun h => !lt (f m) (f h)
def q3 (lt : α → α → Bool) (f : Nat → α) (p : Nat) : Nat → Bool := fun c => !lt (f (p - c)) (f c)
theorem q1_falls (hS : SWO lt) (h : SF lt f m b) (a : Nat) : Falls (q1 lt f a) m b := fun x y h1 h2 h3 hq => by
  cases e : q1 lt f a x with
  | true => rfl
  | false =>
    have := hS.ntrans _ _ _ (h.le hS h1 h2 h3) e
    unfold q1 at hq
    rw [this] at hq; cases hq
theorem q2_falls (hS : SWO lt) (h : SF lt f a m) (k : Nat) : Falls (q2 lt f k) a m := fun x y h1 h2 h3 hq => by
  simp only [q2, Bool.not_eq_true'] at hq ⊢
  exact hS.ntrans _ _ _ hq (h.le hS h1 h2 h3)
theorem q3_falls (hS : SWO lt) {p lo hi : Nat} (Sa : SF lt f a m) (Sb : SF lt f m b) (h1 : a ≤ lo) (h2 : hi ≤ m) (h3 : m + hi ≤ p + 1) (h4 : p < lo + b) : Falls (q3 lt f p) lo hi := fun x y x1 x2 x3 hq => by
  simp only [q3, Bool.not_eq_true'] at hq ⊢
  exact hS.ntrans _ _ _ (Sb.le hS (i := p - y) (j := p - x) (by omega) (by omega) (by omega)) (hS.ntrans _ _ _ hq (Sa.le hS (i := x) (j := y) (by omega) x2 (by omega)))

/-- One against many on its right. -/
theorem one_left (hS : SWO lt) (Sb : SF lt f (a + 1) b) (hi : Srch (q1 lt f a) (a + 1) b i i) : SF lt (rotF f a (a + 1) i) a b := by
  have h1 := hi.a; have h2 := hi.c
  have H := rot_halves (lt := lt) (f := f) (a := a) (s := a) (m := a + 1) (e := i) (b := b) (Nat.le_refl _) (by omega) h1 h2 (SF.empty (by omega)) Sb (fun i j x1 x2 => by omega)
    (.inr fun x y x1 x2 x3 x4 => by obtain rfl : y = a := by omega
                                    exact hS.asymmA (hi.yes x x1 x2)) rfl
  refine SF.glue H.p2 (SF.glue H.p3 H.p4 ?_) H.le
  intro x y x1 x2 x3 x4
  rw [rot_b (x := x) (by omega) (by omega), rot_hi (x := y) (by omega) (by omega) h1]
  rw [show x - (i - (a + 1)) = a by omega]
  exact hi.no y x3 x4
/-- Many against one on their right. -/
theorem one_right (hS : SWO lt) (ham : a ≤ m) (Sa : SF lt f a m) (hi : Srch (q2 lt f m) a m i i) : SF lt (rotF f i m (m + 1)) a (m + 1) := by
  have h1 := hi.a; have h2 := hi.c
  have H := rot_halves (lt := lt) (f := f) (a := a) (s := i) (m := m) (e := m + 1) (b := m + 1) h1 h2 (by omega) (Nat.le_refl _) Sa (SF.empty (by omega)) (fun i j x1 x2 => by omega)
    (.inr fun x y x1 x2 x3 x4 => by obtain rfl : x = m := by omega
                                    have := hi.no y x3 x4
                                    simp only [q2, Bool.not_eq_false'] at this
                                    exact hS.asymmA this) rfl
  refine SF.glue (SF.glue H.p1 H.p2 ?_) H.p3 H.le
  intro x y x1 x2 x3 x4
  rw [rot_lo (x := x) x2 h2 (by omega), rot_a (x := y) (by omega) (by omega)]
  rw [show y + (m - i) = m by omega]
  have := hi.yes x x1 x2
  simpa only [q2, Bool.not_eq_true'] using this
/-- Many against many. -/
theorem many_many {mid lo hi : Nat} (hmid : mid = (a + b) / 2) (ham : a < m) (hmb : m < b) (hlo : lo = if mid < m then mid + m - b else a) (hhi : hi = if mid < m then mid else m) (Sa : SF lt f a m) (Sb : SF lt f m b) (hS : SWO lt)
    (h : Srch (q3 lt f (mid + m - 1)) lo hi s s) : a ≤ s ∧ s ≤ m ∧ m ≤ mid + m - s ∧ mid + m - s ≤ b ∧ s ≤ mid ∧ mid ≤ mid + m - s ∧ Halves lt (rotF f s m (mid + m - s)) a s mid (mid + m - s) b := by
  have h1 := h.a; have h2 := h.c
  have hb : lo ≤ s ∧ s ≤ hi ∧ hi ≤ m ∧ hi ≤ mid ∧ a ≤ lo ∧ mid + m ≤ lo + b := by
    by_cases c : mid < m
    · rw [if_pos c] at hlo hhi; omega
    · rw [if_neg c] at hlo hhi; omega
  obtain ⟨b1, b2, b3, b4, b5, b6⟩ := hb
  refine ⟨by omega, by omega, by omega, by omega, by omega, by omega, rot_halves (by omega) (by omega) (by omega) (by omega) Sa Sb ?_ (.inr ?_) (by omega)⟩
  · intro x y x1 x2 x3 x4
    have hs : lo ≤ s - 1 := by
      by_cases c : mid < m
      · rw [if_pos c] at hlo
        omega
      · rw [if_neg c] at hlo; omega
    have := h.yes (s - 1) hs (by omega)
    simp only [q3, Bool.not_eq_true'] at this
    exact hS.ntrans _ _ _ (Sb.le hS (i := mid + m - 1 - (s - 1)) (j := y) (by omega) (by omega) x4) (hS.ntrans _ _ _ this (Sa.le hS (i := x) (j := s - 1) x1 (by omega) (by omega)))
  · intro x y x1 x2 x3 x4
    have hs : s < hi := by
      by_cases c : mid < m
      · rw [if_pos c] at hhi; omega
      · rw [if_neg c] at hhi; omega
    have := h.no s (Nat.le_refl _) hs
    simp only [q3, Bool.not_eq_false'] at this
    have h5 := hS.asymmA this
    exact hS.ntrans _ _ _ (Sa.le hS (i := s) (j := y) (by omega) (by omega) x4) (hS.ntrans _ _ _ h5 (Sb.le hS (i := x) (j := mid + m - 1 - s) x1 (by omega) (by omega)))

/-! ### What a merge leaves -/
structure Merged (lt : α → α → Bool) (a b : Nat) (d d' : Array α) : Prop where
  size : d'.size = d.size
  perm : PermIn a b d d'
  sorted : SortedIn lt a b d'

theorem Merged.of {F : Nat → α} {d d' : Array α} (h : SwR a b F d d') (hs : SF lt F a b) : Merged lt a b d d' :=
  ⟨h.size, h.perm, by
    have : at! d' = F := funext h.at'
    rw [← this] at hs; exact hs⟩
theorem permIn_out {d d' : Array α} (h : PermIn a b d d') {x : Nat} (hx : x < a ∨ b ≤ x) : at! d' x = at! d x := h.2.1 x hx
theorem SF.congr {g : Nat → α} (h : SF lt f a b) (he : ∀ x, a ≤ x → x < b → g x = f x) : SF lt g a b := fun i j h1 h2 h3 => by
  rw [he i h1 (by omega), he j (by omega) h3]; exact h i j h1 h2 h3
/-- The second part's permutation keeps what was said of both. -/
theorem LEF.perm_right {mid : Nat} {d d' : Array α} (h : LEF lt (at! d) a mid mid b) (hb : b ≤ d.size) (hp : PermIn mid b d d') : LEF lt (at! d') a mid mid b := fun i j h1 h2 h3 h4 => by
  rw [permIn_out hp (.inl h2)]
  exact permIn_all d d' mid b (fun y => lt y (at! d i) = false) hb hp (fun k k1 k2 => h i k h1 h2 k1 k2) j h3 h4
theorem LEF.perm_left {mid : Nat} {d d' : Array α} (h : LEF lt (at! d) a mid mid b) (hb : b ≤ d.size) (hm : mid ≤ b) (hp : PermIn a mid d d') : LEF lt (at! d') a mid mid b := fun i j h1 h2 h3 h4 => by
  rw [permIn_out hp (.inr h3)]
  exact permIn_all d d' a mid (fun y => lt (at! d j) y = false) (by omega) hp (fun k k1 k2 => h k j k1 k2 h3 h4) i h1 h2

theorem rot_id (f : Nat → α) (s : Nat) (m e : Nat) (h : s = m ∨ m = e) (h1 : s ≤ m) (h2 : m ≤ e) : rotF f s m e = f := by
  funext x
  unfold rotF
  repeat' split
  all_goals first | (exfalso; omega) | rfl | (congr 1; omega)
theorem Halves.of_rot {d d5 : Array α} {lo hi mid : Nat} (h : Halves lt (rotF (at! d) s m e) a s mid e b) (r : SwR lo hi (rotF (at! d) s m e) d d5) : Halves lt (at! d5) a s mid e b := by
  rw [show at! d5 = rotF (at! d) s m e from funext r.at']; exact h
theorem Halves.of_id {mid : Nat} (h : Halves lt (rotF f s m e) a s mid e b) (hc : s = m ∨ m = e) (h1 : s ≤ m) (h2 : m ≤ e) : Halves lt f a s mid e b := by
  rw [rot_id _ _ _ _ hc h1 h2] at h; exact h
theorem Merged.same {d : Array α} (h : SF lt (at! d) a b) : Merged lt a b d d := ⟨rfl, permIn_refl _ _ _, h⟩
theorem Halves.left {g : Nat → α} {mid : Nat} (h : Halves lt g a s mid e b) (c : ¬ (a < s ∧ s < mid)) (h1 : a ≤ s) (h2 : s ≤ mid) : SF lt g a mid := by
  by_cases e1 : a = s
  · subst e1; exact h.p2
  · obtain rfl : s = mid := by omega
    exact h.p1
theorem Halves.right {g : Nat → α} {mid : Nat} (h : Halves lt g a s mid e b) (c : ¬ (mid < e ∧ e < b)) (h1 : mid ≤ e) (h2 : e ≤ b) : SF lt g mid b := by
  by_cases e1 : mid = e
  · subst e1; exact h.p4
  · obtain rfl : e = b := by omega
    exact h.p3
theorem sym_join {d d5 d6 d7 : Array α} {mid : Nat} (hz : d5.size = d.size) (hp5 : PermIn a b d d5) (hl : LEF lt (at! d5) a mid mid b) (h6 : Merged lt a mid d5 d6) (h7 : Merged lt mid b d6 d7) (h1 : a ≤ mid) (h2 : mid ≤ b) (hb : b ≤ d.size) : Merged lt a b d d7 := by
  have z6 := h6.size
  have z7 := h7.size
  refine ⟨by omega, permIn_trans _ _ _ _ _ hp5 (permIn_trans _ _ _ _ _ (permIn_mono _ _ _ _ _ _ (Nat.le_refl _) h2 (by omega) h6.perm) (permIn_mono _ _ _ _ _ _ h1 (Nat.le_refl _) (by omega) h7.perm)), ?_⟩
  have L6 := hl.perm_left (by omega) h2 h6.perm
  refine SF.glue (m := mid) (f := at! d7) ?_ h7.sorted (L6.perm_right (by omega) h7.perm)
  exact SF.congr (f := at! d6) h6.sorted fun x x1 x2 => permIn_out h7.perm (.inl x2)

/-! ### Swapping one along a row -/
theorem SwR.along {k : Nat} {d dk : Array α} (h : SwR a b (rotF (at! d) c (c + 1) (k + 1)) d dk) (hk : c ≤ k) (ha : a ≤ c) (hb : k + 1 < b) (hs : b ≤ d.size) : SwR a b (rotF (at! d) c (c + 1) (k + 1 + 1)) d (swp dk k (k + 1)) := by
  have hz := h.size
  refine ⟨by rw [size_swp]; exact hz, permIn_trans _ _ _ _ _ h.perm (swp_permIn _ _ _ _ _ (by omega) (by omega) (by omega) (by omega) (by omega)), fun x => ?_⟩
  by_cases e1 : x = k
  · subst e1
    rw [swp_left _ _ _ (by omega) (by omega), h.at']
    unfold rotF
    repeat' split
    all_goals first | (exfalso; omega) | rfl | (congr 1; omega)
  · by_cases e2 : x = k + 1
    · subst e2
      rw [swp_right _ _ _ (by omega), h.at']
      unfold rotF
      repeat' split
      all_goals first | (exfalso; omega) | rfl | (congr 1; omega)
    · rw [swp_other _ _ _ _ e1 e2, h.at']
      unfold rotF
      repeat' split
      all_goals first | (exfalso; omega) | rfl | (congr 1; omega)
theorem SwR.back {k : Nat} {d dk : Array α} (h : SwR a b (rotF (at! d) (k + 1) m (m + 1)) d dk) (hk : k + 1 ≤ m) (ha : a ≤ k) (hb : m < b) (hs : b ≤ d.size) : SwR a b (rotF (at! d) k m (m + 1)) d (swp dk (k + 1) k) := by
  have hz := h.size
  refine ⟨by rw [size_swp]; exact hz, permIn_trans _ _ _ _ _ h.perm (swp_permIn _ _ _ _ _ (by omega) (by omega) (by omega) (by omega) (by omega)), fun x => ?_⟩
  by_cases e1 : x = k + 1
  · subst e1
    rw [swp_left _ _ _ (by omega) (by omega), h.at']
    unfold rotF
    repeat' split
    all_goals first | (exfalso; omega) | rfl | (congr 1; omega)
  · by_cases e2 : x = k
    · subst e2
      rw [swp_right _ _ _ (by omega), h.at']
      unfold rotF
      repeat' split
      all_goals first | (exfalso; omega) | rfl | (congr 1; omega)
    · rw [swp_other _ _ _ _ e1 e2, h.at']
      unfold rotF
      repeat' split
      all_goals first | (exfalso; omega) | rfl | (congr 1; omega)
/-! ### Rows of blocks -/
/-- Each block of B is sorted, from a place (a block's beginning) up to another one. -/
def Blk (lt : α → α → Bool) (B a b : Nat) (f : Nat → α) : Prop := ∀ i j, a ≤ i → i < j → j < b → i / B = j / B → lt (f j) (f i) = false
theorem blk_same {B q i : Nat} (h1 : B * q ≤ i) (h2 : i < B * q + B) : i / B = q := by
  have hB : 0 < B := by omega
  exact Nat.div_eq_of_lt_le (by rw [Nat.mul_comm]; exact h1) (by rw [Nat.add_mul, Nat.one_mul, Nat.mul_comm]; exact h2)
theorem blk_ge {B q i j : Nat} (hB : 0 < B) (h : i / B = j / B) (hj : B * q ≤ j) : B * q ≤ i := by
  have h1 : q ≤ j / B := (Nat.le_div_iff_mul_le hB).2 (by rw [Nat.mul_comm]; exact hj)
  rw [← h] at h1
  have := (Nat.le_div_iff_mul_le hB).1 h1
  rw [Nat.mul_comm]; exact this
/-- A block more. -/
theorem Blk.snoc {B q e : Nat} (hB : 0 < B) (h : Blk lt B 0 (B * q) f) (k : SF lt f (B * q) e) (he : e ≤ B * q + B) : Blk lt B 0 e f := fun i j h1 h2 h3 h4 => by
  by_cases c : j < B * q
  · exact h i j h1 h2 c h4
  · exact k i j (blk_ge hB h4 (by omega)) h2 h3
theorem Blk.block {B q a n e : Nat} (h : Blk lt B a n f) (ha : a ≤ B * q) (he : e ≤ B * q + B) (hn : e ≤ n) : SF lt f (B * q) e := fun i j h1 h2 h3 =>
  h i j (by omega) h2 (by omega) ((blk_same h1 (by omega)).trans (blk_same (by omega) (by omega)).symm)
theorem Blk.part {B a n a' n' : Nat} (h : Blk lt B a n f) (h1 : a ≤ a') (h2 : n' ≤ n) : Blk lt B a' n' f := fun i j x y z => h i j (by omega) y (by omega)
theorem Blk.congr {B a n : Nat} {g : Nat → α} (h : Blk lt B a n f) (he : ∀ x, a ≤ x → x < n → g x = f x) : Blk lt B a n g := fun i j h1 h2 h3 h4 => by
  rw [he i h1 (by omega), he j (by omega) h3]; exact h i j h1 h2 h3 h4
theorem Blk.all {B n : Nat} (h : Blk lt B 0 n f) (hB : n ≤ B) : SF lt f 0 n := fun i j h1 h2 h3 => h i j h1 h2 h3 (by rw [Nat.div_eq_of_lt (by omega), Nat.div_eq_of_lt (by omega)])
theorem Blk.none {B : Nat} (h : b ≤ a) : Blk lt B a b f := fun i j h1 h2 h3 => by omega
end
end Go.Proofs.Ytncnkfjddolabaa
