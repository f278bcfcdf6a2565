/- The plain law of KmvAdds: the K least, each once. -/
import Derived.Test.YtncnkfjddolabaaKl
set_option linter.unusedVariables false
set_option linter.unusedSimpArgs false
namespace Go.Proofs.Ytncnkfjddolabaa
open Go Go.RowKit

def Kmv.ins (h : Int) : List Int → List Int
  | [] => [h]
  | x :: xs => if x < h then x :: ins h xs else if h < x then h :: x :: xs else x :: xs
theorem Kmv.union_nil (xs : List Int) : Kmv.union xs [] = xs := by cases xs <;> simp [Kmv.union]
theorem Kmv.union_one (h : Int) : ∀ xs, Kmv.union xs [h] = Kmv.ins h xs
  | [] => by simp [Kmv.union, Kmv.ins]
  | x :: xs => by
    rw [Kmv.union, Kmv.ins, union_one h xs, union_nil, union_nil]
theorem Kmv.take_cons_take (x : Int) (xs : List Int) (K : Nat) : (x :: xs.take K).take K = (x :: xs).take K := by
  cases K with
  | zero => simp
  | succ k => simp [List.take_take]
theorem Kmv.ins_take (h : Int) : ∀ (xs : List Int) (K : Nat), (Kmv.ins h (xs.take K)).take K = (Kmv.ins h xs).take K
  | xs, 0 => by simp
  | [], k + 1 => by simp
  | x :: xs, k + 1 => by
    rw [List.take_succ_cons, Kmv.ins, Kmv.ins]
    split
    · rw [List.take_succ_cons, List.take_succ_cons, ins_take h xs k]
    · split
      · rw [List.take_succ_cons, List.take_succ_cons, Kmv.take_cons_take]
      · rw [List.take_succ_cons, List.take_succ_cons, List.take_take, Nat.min_self]
theorem Kmv.all_take (K : Nat) : ∀ (hs a : List Int), hs.foldl (fun zs h => (Kmv.union zs [h]).take K) (a.take K) = (hs.foldl (fun zs h => Kmv.ins h zs) a).take K
  | [], a => rfl
  | h :: hs, a => by
    rw [List.foldl_cons, List.foldl_cons, Kmv.union_one, Kmv.ins_take, all_take K hs]

theorem Kmv.ins_mem (h y : Int) : ∀ xs, y ∈ Kmv.ins h xs ↔ y = h ∨ y ∈ xs
  | [] => by simp [Kmv.ins]
  | x :: xs => by
    rw [Kmv.ins]
    split
    · simp only [List.mem_cons, ins_mem h y xs]
      constructor
      · rintro (h | h | h) <;> simp [h]
      · rintro (h | h | h) <;> simp [h]
    · split
      · simp
      · have : x = h := by omega
        subst this
        simp
theorem Kmv.ins_rises (h : Int) : ∀ xs, xs.Pairwise (· < ·) → (Kmv.ins h xs).Pairwise (· < ·)
  | [], _ => by simp [Kmv.ins]
  | x :: xs, hp => by
    obtain ⟨h1, h2⟩ := List.pairwise_cons.1 hp
    rw [Kmv.ins]
    split
    · rename_i hx
      refine List.pairwise_cons.2 ⟨fun y hy => ?_, ins_rises h xs h2⟩
      rcases (Kmv.ins_mem h y xs).1 hy with rfl | hy
      · exact hx
      · exact h1 y hy
    · split
      · rename_i hx
        refine List.pairwise_cons.2 ⟨fun y hy => ?_, hp⟩
        rcases List.mem_cons.1 hy with rfl | hy
        · exact hx
        · have := h1 y hy; omega
      · exact hp
theorem Kmv.fold_rises : ∀ (hs a : List Int), a.Pairwise (· < ·) → (hs.foldl (fun zs h => Kmv.ins h zs) a).Pairwise (· < ·)
  | [], a, h => h
  | h :: hs, a, ha => fold_rises hs _ (Kmv.ins_rises h a ha)
theorem Kmv.fold_mem (y : Int) : ∀ (hs a : List Int), y ∈ hs.foldl (fun zs h => Kmv.ins h zs) a ↔ y ∈ hs ∨ y ∈ a
  | [], a => by simp
  | h :: hs, a => by
    rw [List.foldl_cons, fold_mem y hs, Kmv.ins_mem]
    simp only [List.mem_cons]
    constructor
    · rintro (h | h | h) <;> simp [h]
    · rintro ((h | h) | h) <;> simp [h]

/-- Each but those that equal the one ahead. -/
def Kmv.uniq : Option Int → List Int → List Int
  | _, [] => []
  | p, x :: xs => if p = some x then uniq (some x) xs else x :: uniq (some x) xs
theorem Kmv.uniq_snoc (x : Int) : ∀ (xs : List Int) (p : Option Int), Kmv.uniq p (xs ++ [x]) = Kmv.uniq p xs ++ (if (xs.getLast?.or p) = some x then [] else [x])
  | [], p => by by_cases h : p = some x <;> simp [Kmv.uniq, h]
  | y :: ys, p => by
    have ih := uniq_snoc x ys (some y)
    have hl : ((y :: ys).getLast?.or p) = (ys.getLast?.or (some y)) := by cases ys <;> simp [List.getLast?_cons]
    rw [hl]
    rw [List.cons_append, Kmv.uniq, Kmv.uniq]
    split
    · rw [ih]
    · rw [ih, List.cons_append]
theorem Kmv.uniq_mem (y : Int) : ∀ (xs : List Int) (p : Option Int), (y ∈ Kmv.uniq p xs → y ∈ xs) ∧ (y ∈ xs → y ∈ Kmv.uniq p xs ∨ p = some y)
  | [], p => by simp [Kmv.uniq]
  | x :: xs, p => by
    have ih := uniq_mem y xs (some x)
    rw [Kmv.uniq]
    split
    · rename_i hp
      subst hp
      refine ⟨fun h => List.mem_cons_of_mem _ (ih.1 h), fun h => ?_⟩
      rcases List.mem_cons.1 h with rfl | h
      · exact .inr rfl
      · exact ih.2 h
    · refine ⟨fun h => ?_, fun h => ?_⟩
      · rcases List.mem_cons.1 h with rfl | h
        · simp
        · exact List.mem_cons_of_mem _ (ih.1 h)
      · rcases List.mem_cons.1 h with rfl | h
        · simp
        · rcases ih.2 h with h | h
          · exact .inl (List.mem_cons_of_mem _ h)
          · cases h; simp
theorem Kmv.uniq_rises : ∀ (xs : List Int) (p : Option Int), xs.Pairwise (· ≤ ·) → (∀ q, p = some q → ∀ y ∈ xs, q ≤ y) → (Kmv.uniq p xs).Pairwise (· < ·) ∧ ∀ q, p = some q → ∀ y ∈ Kmv.uniq p xs, q < y
  | [], p, _, _ => by simp [Kmv.uniq]
  | x :: xs, p, hp, hq => by
    obtain ⟨h1, h2⟩ := List.pairwise_cons.1 hp
    have ih := uniq_rises xs (some x) h2 (fun q e y hy => by cases e; exact h1 y hy)
    rw [Kmv.uniq]
    split
    · rename_i e
      subst e
      exact ⟨ih.1, fun q e y hy => by cases e; exact ih.2 x rfl y hy⟩
    · rename_i e
      refine ⟨List.pairwise_cons.2 ⟨fun y hy => ih.2 x rfl y hy, ih.1⟩, fun q e' y hy => ?_⟩
      subst e'
      have hx := hq q rfl x (by simp)
      have hne : q ≠ x := fun h => e (by rw [h])
      rcases List.mem_cons.1 hy with rfl | hy
      · omega
      · have := ih.2 x rfl y hy; omega
theorem Kmv.rises_ext : ∀ (xs ys : List Int), xs.Pairwise (· < ·) → ys.Pairwise (· < ·) → (∀ y, y ∈ xs ↔ y ∈ ys) → xs = ys
  | [], [], _, _, _ => rfl
  | [], y :: ys, _, _, h => by have := (h y).2 (by simp); simp at this
  | x :: xs, [], _, _, h => by have := (h x).1 (by simp); simp at this
  | x :: xs, y :: ys, hx, hy, h => by
    obtain ⟨h1, h2⟩ := List.pairwise_cons.1 hx
    obtain ⟨g1, g2⟩ := List.pairwise_cons.1 hy
    have e : x = y := by
      have a := (h x).1 (by simp)
      have b := (h y).2 (by simp)
      rcases List.mem_cons.1 a with rfl | a
      · rfl
      · rcases List.mem_cons.1 b with rfl | b
        · rfl
        · have := g1 x a; have := h1 y b; omega
    subst e
    congr 1
    refine rises_ext xs ys h2 g2 fun z => ⟨fun hz => ?_, fun hz => ?_⟩
    · rcases List.mem_cons.1 ((h z).1 (List.mem_cons_of_mem _ hz)) with rfl | hz'
      · have := h1 z hz; omega
      · exact hz'
    · rcases List.mem_cons.1 ((h z).2 (List.mem_cons_of_mem _ hz)) with rfl | hz'
      · have := g1 z hz; omega
      · exact hz'

def Kmv.sort (xs : List Int) : List Int := xs.mergeSort fun x y => decide (x ≤ y)
theorem Kmv.sort_rises (xs : List Int) : (Kmv.sort xs).Pairwise (· ≤ ·) := by
  have := List.pairwise_mergeSort (le := fun x y : Int => decide (x ≤ y)) (by simp; omega) (by simp; omega) xs
  exact this.imp (by simp)
theorem Kmv.sort_mem (xs : List Int) (y : Int) : y ∈ Kmv.sort xs ↔ y ∈ xs := by unfold Kmv.sort; rw [List.mem_mergeSort]
theorem Kmv.sort_len (xs : List Int) : (Kmv.sort xs).length = xs.length := by unfold Kmv.sort; rw [List.length_mergeSort]

/-- The K least, each once. -/
def Kmv.least (K : Nat) (xs : List Int) : List Int := (Kmv.uniq none (Kmv.sort xs)).take K
theorem Kmv.all_least (K : Nat) (hs : List Int) : Kmv.all K hs = Kmv.least K hs := by
  have h := Kmv.all_take K hs []
  rw [List.take_nil] at h
  unfold Kmv.all Kmv.least
  rw [h]
  congr 1
  refine Kmv.rises_ext _ _ (Kmv.fold_rises hs [] (by simp)) (Kmv.uniq_rises _ none (Kmv.sort_rises hs) (by simp)).1 fun y => ?_
  rw [Kmv.fold_mem]
  have := Kmv.uniq_mem y (Kmv.sort hs) none
  constructor
  · rintro (h | h)
    · rcases this.2 ((Kmv.sort_mem hs y).2 h) with h | h
      · exact h
      · cases h
    · simp at h
  · intro h
    exact .inl ((Kmv.sort_mem hs y).1 (this.1 h))
theorem Kmv.least_rises (K : Nat) (hs : List Int) : Rises (Kmv.least K hs) := by
  have h : (Kmv.least K hs).Pairwise (· < ·) := (Kmv.uniq_rises _ none (Kmv.sort_rises hs) (by simp)).1.sublist (List.take_sublist _ _)
  intro j hj
  have := List.pairwise_iff_getElem.1 h j (j + 1) (by omega) hj (by omega)
  simpa [List.getElem?_eq_getElem hj, List.getElem?_eq_getElem (show j < (Kmv.least K hs).length by omega)] using this
theorem Kmv.least_step (K : Nat) (ys : List Int) (i : Nat) (h : i < ys.length) :
    (Kmv.uniq none (ys.take (i + 1))).take K = (Kmv.uniq none (ys.take i)).take K ++
      (if ((Kmv.uniq none (ys.take i)).take K).length < K ∧ (i = 0 ∨ ys.getD i 0 ≠ ys.getD (i - 1) 0) then [ys.getD i 0] else []) := by
  have e : ys.take (i + 1) = ys.take i ++ [ys.getD i 0] := by rw [List.take_add_one]; simp [List.getElem?_eq_getElem h]
  have hl : ((ys.take i).getLast?.or none) = some (ys.getD i 0) ↔ ¬ (i = 0 ∨ ys.getD i 0 ≠ ys.getD (i - 1) 0) := by
    cases i with
    | zero => simp
    | succ j =>
      have : (ys.take (j + 1)).getLast? = some (ys.getD j 0) := by
        have e2 : ys.take (j + 1) = ys.take j ++ [ys.getD j 0] := by rw [List.take_add_one]; simp [List.getElem?_eq_getElem (show j < ys.length by omega)]
        rw [e2, List.getLast?_append]; rfl
      rw [this]
      simp
      omega
  rw [e, Kmv.uniq_snoc]
  generalize Kmv.uniq none (ys.take i) = U at *
  by_cases hc : (i = 0 ∨ ys.getD i 0 ≠ ys.getD (i - 1) 0)
  · rw [if_neg (fun h => hl.1 h hc)]
    by_cases hk : (U.take K).length < K
    · rw [if_pos ⟨hk, hc⟩]
      rw [List.length_take] at hk
      rw [List.take_of_length_le (by simp; omega), List.take_of_length_le (by omega)]
    · rw [if_neg (fun h => hk h.1), List.append_nil]
      rw [List.length_take] at hk
      rw [List.take_append_of_le_length (by omega)]
  · rw [if_pos (hl.2 hc), if_neg (fun h => hc h.2)]
    simp
end Go.Proofs.Ytncnkfjddolabaa
