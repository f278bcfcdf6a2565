/- The plain law of GaugeAdds: what the gauge's folds come to. -/
import Derived.Test.YtncnkfjddolabaaGw
import Derived.Test.YtncnkfjddolabaaSf
set_option linter.unusedVariables false
set_option linter.unusedSimpArgs false
namespace Go.Proofs.Ytncnkfjddolabaa
open Go Go.RowKit Go.Shelf

/-! ### 1. The least ones -/
theorem merge_one (c : Nat) : ∀ zs : List Nat, (Gg.merge zs [c]).map Fl.keyT = Gg.ins (Fl.keyT c) (zs.map Fl.keyT)
  | [] => by simp [Gg.merge, Gg.ins]
  | z :: zs => by
    rw [List.map_cons, Gg.ins]
    by_cases h : Fl.keyT c < Fl.keyT z
    · rw [if_pos h, Gg.m4 _ _ h]
      simp [Gg.merge]
    · rw [if_neg h, Gg.m3 _ _ h, List.map_cons, merge_one c zs]
theorem gL_keys (k : Nat) (l : List Nat) (hl : ∀ b ∈ l, b < 18446744073709551616) : (gL k l).map Fl.keyT = ((l.map Fl.keyT).foldl (fun zs h => Gg.ins h zs) []).take k := by
  have : ∀ (l zs : List Nat), (∀ b ∈ l, b < 18446744073709551616) → (l.foldl (fun zs b => (Gg.merge zs [Fl.cq b]).take k) zs).map Fl.keyT = (l.map Fl.keyT).foldl (fun zs h => (Gg.ins h zs).take k) (zs.map Fl.keyT) := by
    intro l
    induction l with
    | nil => intro zs _; rfl
    | cons b l ih =>
      intro zs h
      rw [List.foldl_cons, List.map_cons, List.foldl_cons, ih _ (fun x hx => h x (by simp [hx])), List.map_take, merge_one, Fl.keyT_cq (h b (by simp))]
  have h := this l [] hl
  rw [show gL k l = l.foldl (fun zs b => (Gg.merge zs [Fl.cq b]).take k) [] from rfl, h]
  have := Gg.all_take k (l.map Fl.keyT) []
  simpa using this
/-- The K least: their keys are the first ones of any sorted row of the same keys. -/
theorem gL_sorted (k : Nat) (l : List Nat) (hl : ∀ b ∈ l, b < 18446744073709551616) (ys : List F64) (hp : (fbs ys).Perm l) (hs : (ys.map fun x => Fl.keyT x.b).Pairwise (· ≤ ·)) : (gL k l).map Fl.keyT = ((fbs ys).map Fl.keyT).take k := by
  rw [gL_keys k l hl, Gg.fold_eq (l.map Fl.keyT) ((fbs ys).map Fl.keyT) (hp.map _) (by simpa [fbs, List.map_map, Function.comp_def] using hs)]
theorem gL_length (k : Nat) (l : List Nat) (hl : ∀ b ∈ l, b < 18446744073709551616) : (gL k l).length = min k l.length := by
  have h := congrArg List.length (gL_keys k l hl)
  have h2 := (Gg.fold_perm (l.map Fl.keyT) []).length_eq
  simp only [List.length_map, List.length_take, List.append_nil] at h h2
  omega
theorem gL_risen (k : Nat) (l : List Nat) (hl : ∀ b ∈ l, b < 18446744073709551616) : Risen (gL k l) := by
  have h := gL_keys k l hl
  have hr := (Gg.fold_rises (l.map Fl.keyT) [] List.Pairwise.nil)
  have hr2 : ((gL k l).map Fl.keyT).Pairwise (· ≤ ·) := by rw [h]; exact hr.sublist (List.take_sublist _ _)
  intro j hj
  rw [List.pairwise_map, List.pairwise_iff_getElem] at hr2
  have := hr2 j (j + 1) (by omega) hj (by omega)
  have e1 : (gL k l).getD j 0 = (gL k l)[j]'(by omega) := by simp [List.getD_eq_getElem?_getD, List.getElem?_eq_getElem (show j < (gL k l).length by omega)]
  have e2 : (gL k l).getD (j + 1) 0 = (gL k l)[j + 1]'hj := by simp [List.getD_eq_getElem?_getD, List.getElem?_eq_getElem hj]
  rw [e1, e2]
  omega

/-! ### 2. The counts, the least, the greatest -/
theorem fInf_key : Fl.keyT fInf = 18442240474082181120 := by kernel_rfl
theorem fNinf_key : Fl.keyT fNinf = 4503599627370495 := by kernel_rfl
theorem key_bounds {b : Nat} (hb : b < 18446744073709551616) (hn : Fl.nan b = false) : 4503599627370495 ≤ Fl.keyT b ∧ Fl.keyT b ≤ 18442240474082181120 := by
  rcases Fl.key_sv hb hn with ⟨_, h1, h2, h3⟩ | ⟨_, h1, h2, h3⟩ <;> omega
/-- What is known of what a row of floats measures. -/
structure GnInv (n : Nat) (g : Gn) : Prop where
  many : g.many = n
  e0 : 0 ≤ g.e0 ∧ g.e0 ≤ n
  e1 : 0 ≤ g.e1 ∧ g.e1 ≤ n
  e2 : 0 ≤ g.e2 ∧ g.e2 ≤ n
  e3 : 0 ≤ g.e3 ∧ g.e3 ≤ n
  e4 : 0 ≤ g.e4 ∧ g.e4 ≤ n
  e5 : 0 ≤ g.e5 ∧ g.e5 ≤ n
  lo : g.lo < 18446744073709551616
  hi : g.hi < 18446744073709551616
  nlo : Fl.nan g.lo = false
  nhi : Fl.nan g.hi = false
theorem hot_range (E i : Int) : 0 ≤ hot E i ∧ hot E i ≤ 1 := by unfold hot; split <;> omega
theorem plus_small {a b : Int} {n : Nat} (ha : a ≤ n) (hb : b ≤ 1) (hn : n < 1000) : plus a b = a + b := by unfold plus; rw [if_pos (by omega)]
theorem low_step {g : Gn} {n : Nat} (h : GnInv n g) (b : Nat) (hb : b < 18446744073709551616) : (g.join (oneN b)).lo = if Fl.nan b = false ∧ Fl.keyT b < Fl.keyT g.lo then b else g.lo := by
  show Fl.minT g.lo (Gg.low1 b) = _
  unfold Gg.low1 Fl.minT
  have hk := key_bounds h.lo h.nlo
  cases hn : Fl.nan b
  · simp
  · simp only [if_true]
    rw [fInf_key, if_neg (by omega), if_neg (by simp)]
theorem high_step {g : Gn} {n : Nat} (h : GnInv n g) (b : Nat) (hb : b < 18446744073709551616) : (g.join (oneN b)).hi = if Fl.nan b = false ∧ Fl.keyT g.hi < Fl.keyT b then b else g.hi := by
  show Fl.maxT g.hi (Gg.high1 b) = _
  unfold Gg.high1 Fl.maxT
  have hk := key_bounds h.hi h.nhi
  cases hn : Fl.nan b
  · simp
  · simp only [if_true]
    rw [fNinf_key, if_neg (by omega), if_neg (by simp)]
theorem GnInv.step {g : Gn} {n : Nat} (h : GnInv n g) (hn : n < 1000) (b : Nat) (hb : b < 18446744073709551616) : GnInv (n + 1) (g.join (oneN b)) := by
  have P : ∀ e i : Int, 0 ≤ e ∧ e ≤ n → 0 ≤ plus e (hot (Fl.edgeT b) i) ∧ plus e (hot (Fl.edgeT b) i) ≤ ((n + 1 : Nat) : Int) := fun e i he => by
    have := hot_range (Fl.edgeT b) i
    rw [plus_small he.2 this.2 hn]; omega
  refine ⟨?_, P _ _ h.e0, P _ _ h.e1, P _ _ h.e2, P _ _ h.e3, P _ _ h.e4, P _ _ h.e5, ?_, ?_, ?_, ?_⟩
  · show plus g.many 1 = _
    rw [h.many, plus_small (Int.le_refl _) (by omega) hn]; omega
  · rw [low_step h b hb]; split
    · exact hb
    · exact h.lo
  · rw [high_step h b hb]; split
    · exact hb
    · exact h.hi
  · rw [low_step h b hb]; split
    · rename_i c; exact c.1
    · exact h.nlo
  · rw [high_step h b hb]; split
    · rename_i c; exact c.1
    · exact h.nhi
theorem gN_inv : ∀ (l : List Nat), l.length < 1000 → (∀ b ∈ l, b < 18446744073709551616) → GnInv l.length (gN l) := by
  have : ∀ (l : List Nat) (n : Nat) (g : Gn), n + l.length < 1000 → (∀ b ∈ l, b < 18446744073709551616) → GnInv n g → GnInv (n + l.length) (l.foldl (fun g b => g.join (oneN b)) g) := by
    intro l
    induction l with
    | nil => intro n g _ _ h; exact h
    | cons b l ih =>
      intro n g hn hl h
      have := ih (n + 1) (g.join (oneN b)) (by simp at hn; omega) (fun x hx => hl x (by simp [hx])) (h.step (by simp at hn; omega) b (hl b (by simp)))
      rw [List.foldl_cons, List.length_cons, show n + (l.length + 1) = n + 1 + l.length by omega]
      exact this
  intro l hn hl
  have := this l 0 ⟨0, 0, 0, 0, 0, 0, 0, fInf, fNinf⟩ (by omega) hl ⟨rfl, by simp, by simp, by simp, by simp, by simp, by simp, by decide, by decide, by decide, by decide⟩
  simpa [gN] using this

/-! ### 3. The law's own counts -/
abbrev edArr (g : Gn) : Array Value := #[.int .u32 g.e0, .int .u32 g.e1, .int .u32 g.e2, .int .u32 g.e3, .int .u32 g.e4, .int .u32 g.e5]
def edAt (g : Gn) (E : Nat) : Int := match E with | 0 => g.e0 | 1 => g.e1 | 2 => g.e2 | 3 => g.e3 | 4 => g.e4 | _ => g.e5
theorem edArr_get (g : Gn) {E : Nat} (h : E < 6) : (edArr g)[E]? = some (.int .u32 (edAt g E)) := by
  rcases (show E = 0 ∨ E = 1 ∨ E = 2 ∨ E = 3 ∨ E = 4 ∨ E = 5 by omega) with rfl | rfl | rfl | rfl | rfl | rfl <;> rfl
theorem edAt_range {g : Gn} {n : Nat} (h : GnInv n g) (E : Nat) : 0 ≤ edAt g E ∧ edAt g E ≤ n := by
  unfold edAt
  split
  · exact h.e0
  · exact h.e1
  · exact h.e2
  · exact h.e3
  · exact h.e4
  · exact h.e5
theorem edArr_step {g : Gn} {n : Nat} (h : GnInv n g) (hn : n < 1000) (b : Nat) {E : Nat} (hE : Fl.edgeT b = E) (h6 : E < 6) : (edArr g).setIfInBounds E (.int .u32 (edAt g E + 1)) = edArr (g.join (oneN b)) := by
  have p : ∀ e i : Int, 0 ≤ e ∧ e ≤ n → plus e (hot (Fl.edgeT b) i) = e + hot (Fl.edgeT b) i := fun e i he => plus_small he.2 (hot_range _ _).2 hn
  show _ = (#[Value.int .u32 (plus g.e0 (hot (Fl.edgeT b) 0)), Value.int .u32 (plus g.e1 (hot (Fl.edgeT b) 1)), Value.int .u32 (plus g.e2 (hot (Fl.edgeT b) 2)), Value.int .u32 (plus g.e3 (hot (Fl.edgeT b) 3)), Value.int .u32 (plus g.e4 (hot (Fl.edgeT b) 4)), Value.int .u32 (plus g.e5 (hot (Fl.edgeT b) 5))] : Array Value)
  rw [p _ _ h.e0, p _ _ h.e1, p _ _ h.e2, p _ _ h.e3, p _ _ h.e4, p _ _ h.e5, hE]
  rcases (show E = 0 ∨ E = 1 ∨ E = 2 ∨ E = 3 ∨ E = 4 ∨ E = 5 by omega) with rfl | rfl | rfl | rfl | rfl | rfl <;> simp [edAt, hot]

/-! ### 4. Bits as floats -/
def F64.of (b : Nat) : F64 := if h : b < 18446744073709551616 then ⟨b, h⟩ else default
theorem fbs_of {l : List Nat} (h : ∀ b ∈ l, b < 18446744073709551616) : fbs (l.map F64.of) = l := by
  induction l with
  | nil => rfl
  | cons b l ih =>
    have h1 : F64.of b = ⟨b, h b (by simp)⟩ := by unfold F64.of; rw [dif_pos (h b (by simp))]
    have := ih (fun x hx => h x (by simp [hx]))
    unfold fbs at *
    simp [h1, this]
theorem itf_lt {l : List (Int × Int)} (h : ItOk l) : ∀ b ∈ itf l, b < 18446744073709551616 := fun b hb => by
  obtain ⟨p, hp, rfl⟩ := List.mem_map.1 hb
  obtain ⟨h1, h2, _⟩ := h p hp
  exact floatT_lt _ _ h1 h2
theorem fbs_perm {ys xs : List F64} (h : ys.Perm xs) : (fbs ys).Perm (fbs xs) := h.map _
end Go.Proofs.Ytncnkfjddolabaa
