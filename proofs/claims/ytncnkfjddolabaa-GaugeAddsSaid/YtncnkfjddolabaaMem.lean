/- Memory for the walks: what changes ('Tr'), a slice that is read ('RdV'), a slice of one's own ('Own'), append onto it. No program. -/
import Derived.Test.YtncnkfjddolabaaDr3
import Derived.WalkKit
import Derived.Maps.AppendAt
import Derived.Laws.AppendOwnNone
import Derived.Lib.Hide
import Derived.Deep.QuietTactic
import Derived.BigQuiet
import Derived.WalkSpells
import Derived.KernelRfl
set_option linter.unusedVariables false
namespace Go.Proofs.Ytncnkfjddolabaa
open Go Go.RowKit

/-! ### 1. What changes -/
/-- Of the blocks that were there, none but those of S has changed. -/
structure Tr (S : List Nat) (w w' : World) : Prop where
  os : w'.os = w.os
  tape : w'.tape = w.tape
  output : w'.output = w.output
  size : w.heap.size ≤ w'.heap.size
  block : ∀ k, k < w.heap.size → k ∉ S → w'.heap[k]? = w.heap[k]?

section
variable {S T : List Nat} {w w1 w2 w' : World}
theorem Tr.refl (S : List Nat) (w : World) : Tr S w w := ⟨rfl, rfl, rfl, Nat.le_refl _, fun _ _ _ => rfl⟩
theorem Tr.trans (h : Tr S w w1) (k : Tr T w1 w2) (hs : ∀ x ∈ T, x ∈ S ∨ w.heap.size ≤ x) : Tr S w w2 :=
  ⟨k.os.trans h.os, k.tape.trans h.tape, k.output.trans h.output, Nat.le_trans h.size k.size, fun i hi hn =>
    (k.block i (Nat.lt_of_lt_of_le hi h.size) fun hT => (hs i hT).elim hn fun hge => by omega).trans (h.block i hi hn)⟩
theorem Tr.mono (h : Tr S w w') (hs : ∀ x ∈ S, x ∈ T ∨ w.heap.size ≤ x) : Tr T w w' :=
  ⟨h.os, h.tape, h.output, h.size, fun i hi hn => h.block i hi fun hS => (hs i hS).elim hn fun hge => by omega⟩
theorem Tr.nil (h : Tr [] w w') (S : List Nat) : Tr S w w' := h.mono (by simp)
theorem Tr.alloc (h : Tr S w w1) (o : Obj) : Tr S w (w1.alloc o) :=
  h.trans (T := []) ⟨rfl, rfl, rfl, by simp, fun k hk _ => Below.heap_alloc _ _ _ hk⟩ (by simp)
theorem Tr.drew (h : Tr S w w1) : Tr S w w1.drew := ⟨h.os, h.tape, h.output, h.size, h.block⟩
theorem Tr.drewN (h : Tr S w w1) (n : Nat) : Tr S w (w1.drewN n) := ⟨h.os, h.tape, h.output, h.size, h.block⟩
theorem Tr.setCell (h : Tr S w w1) {p : Addr} (hp : p.block ∈ S ∨ w.heap.size ≤ p.block) (u : Value) : Tr S w (w1.setCell p u) :=
  h.trans (T := [p.block]) ⟨rfl, rfl, rfl, by simp [World.setCell], fun k hk hn => Below.heap_setCell _ _ _ _ (by simpa using hn)⟩ (by simpa using hp)
theorem Tr.grown (h : Tr S w w1) {row : Option Nat} (hg : w1.grownBy w2 row) (hr : ∀ k, row = some k → k ∈ S ∨ w.heap.size ≤ k) : Tr S w w2 :=
  h.trans (T := row.toList) ⟨hg.os, hg.tape, hg.output, hg.size, fun k hk hn => hg.block k hk fun e => hn (by simp [← e])⟩ (by simpa using hr)
theorem Tr.below (h : Tr S w w') (hs : ∀ x ∈ S, w.heap.size ≤ x) : Below w.heap.size w w' :=
  ⟨h.os, h.tape, h.output, h.size, fun k hk => h.block k hk fun hS => by have := hs k hS; omega⟩
theorem Tr.of_below {B : Nat} (h : Below B w w') (hB : w.heap.size ≤ B) : Tr [] w w' := ⟨h.os, h.tape, h.output, h.size, fun k hk _ => h.block k (by omega)⟩
theorem Tr.cell (h : Tr S w w') {p : Addr} (hp : p.block < w.heap.size) (hn : p.block ∉ S) : w'.cell? p = w.cell? p := World.cell?_of_block (w := w) (h.block p.block hp hn)
theorem Tr.frozen (h : Tr S w w') {p : Addr} (hp : p.block < w.heap.size) (hn : p.block ∉ S) : w'.frozen? p = w.frozen? p := World.frozen?_of_block (w := w) (h.block p.block hp hn)
end

theorem lt_of_heap {w : World} {k : Nat} {o : Obj} (h : w.heap[k]? = some o) : k < w.heap.size := (Array.getElem?_eq_some_iff.1 h).1
theorem cell_cells {w : World} {k : Nat} {c : Array Value} {e : TypeId} {f : Nat × Nat} (h : w.heap[k]? = some (.cells c e f)) (o : Nat) : w.cell? ⟨k, o, none⟩ = c[o]? := by simp [World.cell?, h]
theorem frozen_cells {w : World} {k : Nat} {c : Array Value} {e : TypeId} (h : w.heap[k]? = some (.cells c e (0, 0))) (o : Nat) : w.frozen? ⟨k, o, none⟩ = false := by simp [World.frozen?, h]
theorem heap_setCell {w : World} {k o : Nat} {c : Array Value} {e : TypeId} {f : Nat × Nat} (h : w.heap[k]? = some (.cells c e f)) (u : Value) :
    (w.setCell ⟨k, o, none⟩ u).heap[k]? = some (.cells (c.setIfInBounds o u) e f) := by
  simp only [World.setCell, Array.getElem?_modify, if_true, h, Option.map_some, Option.isSome_none, Bool.false_eq_true, if_false]
theorem heap_setCell_ne {w : World} {k : Nat} {p : Addr} (hne : k ≠ p.block) (u : Value) : (w.setCell p u).heap[k]? = w.heap[k]? := Below.heap_setCell _ _ _ _ hne
theorem heap_new (w : World) (o : Obj) : (w.alloc o).heap[w.heap.size]? = some o := heap_alloc_new w o
theorem heap_old {w : World} {k : Nat} {x : Obj} (o : Obj) (h : w.heap[k]? = some x) : (w.alloc o).heap[k]? = some x := (Below.heap_alloc w o k (lt_of_heap h)).trans h
theorem size_setCell (w : World) (p : Addr) (u : Value) : (w.setCell p u).heap.size = w.heap.size := by simp [World.setCell]

/-! ### 2. A slice that is read -/
structure RdV (w : World) (size : Nat) (v : Value) (n : Nat) (cs : List Value) : Prop where
  len : cs.length = n * size
  one : ∀ u ∈ cs, u.oneCell' = true
  form : (v = .slice none 0 0 ∧ n = 0) ∨ ∃ ad c, v = .slice (some ad) n c ∧ n ≤ c ∧ c ≤ maxLen ∧
    (0 < n → ∃ b off, ad = ⟨b, off, none⟩ ∧ b < w.heap.size ∧ ∀ j u, cs[j]? = some u → w.cell? ⟨b, off + j, none⟩ = some u)

section
variable {w w' : World} {size n : Nat} {v : Value} {cs : List Value}
/-- The block of a slice that isn't empty. -/
def Off (S : List Nat) : Value → Prop
  | .slice (some a) n _ => 0 < n → a.block ∉ S
  | _ => True
theorem RdV.keep {S : List Nat} (h : RdV w size v n cs) (ht : Tr S w w') (hn : Off S v) : RdV w' size v n cs := by
  refine ⟨h.len, h.one, ?_⟩
  rcases h.form with hl | ⟨ad, c, rfl, h1, h2, h3⟩
  · exact .inl hl
  · refine .inr ⟨ad, c, rfl, h1, h2, fun hp => ?_⟩
    obtain ⟨b, off, rfl, hb, hc⟩ := h3 hp
    exact ⟨b, off, rfl, Nat.lt_of_lt_of_le hb ht.size, fun j u hj => (ht.cell (p := ⟨b, off + j, none⟩) hb (hn hp)).trans (hc j u hj)⟩
theorem Off.nil (v : Value) : Off [] v := by
  unfold Off; split <;> simp
theorem RdV.keep' (h : RdV w size v n cs) (ht : Tr [] w w') : RdV w' size v n cs := h.keep ht (Off.nil v)
theorem RdV.alloc (h : RdV w size v n cs) (o : Obj) : RdV (w.alloc o) size v n cs := h.keep' ((Tr.refl [] w).alloc o)
theorem RdV.drew (h : RdV w size v n cs) : RdV w.drew size v n cs := h.keep' (Tr.refl [] w).drew
/-- A block of S is none of a slice below it. -/
theorem RdV.off_ge {S : List Nat} (h : RdV w size v n cs) (hS : ∀ x ∈ S, w.heap.size ≤ x) : Off S v := by
  rcases h.form with ⟨rfl, _⟩ | ⟨ad, c, rfl, h1, h2, h3⟩
  · trivial
  · intro hp hm
    obtain ⟨b, off, rfl, hb, _⟩ := h3 hp
    have := hS b hm; omega
theorem RdV.nil (w : World) (size : Nat) : RdV w size (.slice none 0 0) 0 [] := ⟨by simp, by simp, .inl ⟨rfl, rfl⟩⟩
theorem RdV.slice (h : RdV w size v n cs) : ∃ A c, v = .slice A n c ∧ n ≤ 9223372036854775807 := by
  rcases h.form with ⟨rfl, rfl⟩ | ⟨ad, c, rfl, h1, h2, _⟩
  · exact ⟨none, 0, rfl, by omega⟩
  · exact ⟨some ad, c, rfl, by simp only [maxLen] at h2; omega⟩
/-- One that holds something, written out. -/
theorem RdV.ptr (h : RdV w size v n cs) (hp : 0 < n) : ∃ b off c, v = .slice (some ⟨b, off, none⟩) n c ∧ n ≤ c ∧ c ≤ 9223372036854775807 ∧ b < w.heap.size ∧ ∀ j u, cs[j]? = some u → w.cell? ⟨b, off + j, none⟩ = some u := by
  rcases h.form with ⟨_, h0⟩ | ⟨ad, c, rfl, h1, h2, h3⟩
  · omega
  · obtain ⟨b, off, rfl, hb, hc⟩ := h3 hp
    exact ⟨b, off, c, rfl, h1, by simp only [maxLen] at h2; omega, hb, hc⟩
end

/-! ### 3. A slice of one's own -/
def Own (w : World) (e : TypeId) (size : Nat) (v : Value) (n : Nat) (xs : List Value) : Prop := w.ownsRow 0 e size v n xs ∧ ∀ u ∈ xs, u.oneCell' = true
/-- Its block, if it has one. -/
abbrev ob (v : Value) : List Nat := v.ownBlock.toList
section
variable {w w' : World} {size n e : Nat} {v : Value} {xs : List Value}
theorem Own.nil (w : World) (e : TypeId) (size : Nat) : Own w e size (.slice none 0 0) 0 [] := ⟨World.ownsRow_nil w 0 e size, by simp⟩
theorem Own.made (w : World) (e : TypeId) (size n : Nat) (cs : Array Value) (hn : n ≤ maxLen) (hs : cs.size = n * size) (h1 : ∀ u ∈ cs.toList, u.oneCell' = true) :
    Own (w.alloc (.cells cs e)) e size (.slice (some ⟨w.heap.size, 0, none⟩) n n) n cs.toList :=
  ⟨⟨by simpa using hs, .inr ⟨w.heap.size, n, cs, rfl, Nat.zero_le _, heap_alloc_new w _, Nat.le_refl _, hn, hs, by rw [← hs, ← Array.length_toList]; exact List.take_length⟩⟩, h1⟩
theorem Own.lt (h : Own w e size v n xs) : ∀ x ∈ ob v, x < w.heap.size := by
  intro x hx
  have := h.1.lt x (by simpa [ob] using hx)
  exact this.2
theorem Own.keep {S : List Nat} (h : Own w e size v n xs) (ht : Tr S w w') (hn : ∀ x ∈ ob v, x ∉ S) : Own w' e size v n xs := by
  refine ⟨⟨h.1.1, ?_⟩, h.2⟩
  rcases h.1.2 with hl | ⟨g, cap, cur, rfl, hb, hg, rest⟩
  · exact .inl hl
  · exact .inr ⟨g, cap, cur, rfl, hb, by rw [ht.block g (lt_of_heap hg) (hn g (by simp [ob, Value.ownBlock]))]; exact hg, rest⟩
theorem Own.keep' (h : Own w e size v n xs) (ht : Tr [] w w') : Own w' e size v n xs := h.keep ht (by simp)
theorem Own.alloc (h : Own w e size v n xs) (o : Obj) : Own (w.alloc o) e size v n xs := h.keep' ((Tr.refl [] w).alloc o)
theorem Own.drew (h : Own w e size v n xs) : Own w.drew e size v n xs := h.keep' (Tr.refl [] w).drew
theorem Own.rd (h : Own w e size v n xs) : RdV w size v n xs := by
  refine ⟨h.1.1, h.2, ?_⟩
  rcases h.1.2 with hl | ⟨g, cap, cur, rfl, hb, hg, h1, h2, h3, h4⟩
  · exact .inl hl
  · refine .inr ⟨⟨g, 0, none⟩, cap, rfl, h1, h2, fun hp => ⟨g, 0, rfl, lt_of_heap hg, fun j u hj => ?_⟩⟩
    rw [cell_cells hg, Nat.zero_add]
    rw [← h4, List.getElem?_take] at hj
    split at hj
    · simpa using hj
    · cases hj
theorem Own.form (h : Own w e size v n xs) (hp : 0 < n) : ∃ g c, v = .slice (some ⟨g, 0, none⟩) n c ∧ n ≤ c ∧ c ≤ 9223372036854775807 ∧ g < w.heap.size := by
  rcases h.1.2 with ⟨_, h0⟩ | ⟨g, cap, cur, rfl, hb, hg, h1, h2, _⟩
  · omega
  · exact ⟨g, cap, rfl, h1, by simp only [maxLen] at h2; omega, lt_of_heap hg⟩
end

/-! ### 4. append -/
/-- The element type's row of the table. -/
def El (P : Program) (t e : TypeId) (size bytes : Nat) : Prop :=
  P.underlying t = some (.slice e) ∧ ((P.info? e).bind fun i => i.zero.map fun z => (i.size, i.bytes, z.cells.size)) = some (size, bytes, size) ∧ 0 < size

theorem run_app {P : Program} {t e size bytes : Nat} (E : El P t e size bytes) {w : World} {v vx : Value} {n m : Nat} {xs news : List Value} (hown : Own w e size v n xs) (hrd : RdV w size vx m news)
    (h63 : (n + m) * bytes ≤ 140737488355328) (hn : n + m ≤ 9223372036854775807) (ty : TypeId) :
    ∃ v' w', (Builtin.append_ #[t, t] ty #[v, vx]).run P w = .ok v' w' ∧ Own w' e size v' (n + m) (xs ++ news) ∧ Tr (ob v) w w' ∧ (∀ x ∈ ob v', x ∈ ob v ∨ w.heap.size ≤ x) := by
  obtain ⟨ht, hi, hsz⟩ := E
  cases hi0 : P.info? e with
  | none => rw [hi0] at hi; cases hi
  | some i =>
    rw [hi0] at hi
    simp only [Option.bind_some] at hi
    cases hz0 : i.zero with
    | none => rw [hz0] at hi; cases hi
    | some z =>
      rw [hz0] at hi
      simp only [Option.map_some, Option.some.injEq, Prod.mk.injEq] at hi
      obtain ⟨h1, h2, h3⟩ := hi
      have one : ∀ u ∈ xs ++ news, u.oneCell' = true := fun u hu => (List.mem_append.1 hu).elim (hown.2 u) (hrd.one u)
      rcases hrd.form with ⟨rfl, rfl⟩ | ⟨ad, c, rfl, hm, hc, hcell⟩
      · have hnil : news = [] := List.eq_nil_of_length_eq_zero (by simpa using hrd.len)
        subst hnil
        refine ⟨v, w, run_append_owned_none (P := P) (w := w) 0 t ty e i size ht hi0 v n xs hown.1, ?_, Tr.refl _ _, fun x hx => .inl hx⟩
        simpa using hown
      · have hnews : ∀ j u, news[j]? = some u → w.cell? (ad.add j) = some u := by
          intro j u hj
          have hp : 0 < m := by
            rcases Nat.eq_zero_or_pos m with h0 | h0
            · have : news = [] := List.eq_nil_of_length_eq_zero (by rw [hrd.len, h0, Nat.zero_mul])
              rw [this] at hj; simp at hj
            · exact h0
          obtain ⟨b, off, rfl, _, hc⟩ := hcell hp
          have : (⟨b, off, none⟩ : Addr).add j = ⟨b, off + j, none⟩ := by unfold Addr.add; split <;> simp_all
          rw [this]; exact hc j u hj
        obtain ⟨v', w', hr, g1, g2, _, g4⟩ := run_append_own_at (P := P) w 0 t ty e i z size bytes ht hi0 hz0 h1 h2 h3 hsz v n xs hown.1 ad m c news hrd.len hnews hrd.one (by unfold maxLen; omega) h63 (Nat.zero_le _)
        refine ⟨v', w', hr, ⟨g1, one⟩, (Tr.refl _ _).grown g2 (fun k hk => .inl (by simp [ob, hk])), fun x hx => ?_⟩
        rcases g4 with g4 | g4
        · left; simpa [ob, g4] using hx
        · right
          have : x = w.heap.size := by simpa [ob, g4] using hx
          omega

section
variable {P : Program} {w : World} {ops : Array Oper} {rest : List Oper} {o : Oper} {a : Act} {K : Act → World → Prop} {Q : Exit → Act → World → Prop}
/-- append at an operation. -/
theorem wp_app (s x : Operand) (t : TypeId) (ho : o.op = .call { callee := .builtin .append, args := #[s, x], argTypes := #[t, t] }) (e size bytes : Nat) (E : El P t e size bytes)
    (n m : Nat) (xs news : List Value) (hown : Own w e size (a.eval s) n xs) (hrd : RdV w size (a.eval x) m news) (hn : (n + m) * bytes ≤ 140737488355328) (h63 : n + m ≤ 9223372036854775807)
    (h : ∀ v' w', Own w' e size v' (n + m) (xs ++ news) → Tr (ob (a.eval s)) w w' → (∀ x ∈ ob v', x ∈ ob (a.eval s) ∨ w.heap.size ≤ x) → K (a.put o.dst v') w') : o.wp P a w K Q := by
  obtain ⟨v', w', hr, g1, g2, g3⟩ := run_app E hown hrd hn h63 o.type
  unfold Oper.wp execOp
  simp only [ho, resolve, invoke, builtin, Sem.run_bind, Sem.run_pure, Result.andThen_ok, List.map_toArray, List.map_cons, List.map_nil, hr]
  exact h v' w' g1 g2 g3
theorem wpList_app (hgd : o.guard = none) (s x : Operand) (t : TypeId) (ho : o.op = .call { callee := .builtin .append, args := #[s, x], argTypes := #[t, t] }) (e size bytes : Nat) (E : El P t e size bytes)
    (n m : Nat) (xs news : List Value) (hown : Own w e size (a.eval s) n xs) (hrd : RdV w size (a.eval x) m news) (hn : (n + m) * bytes ≤ 140737488355328) (h63 : n + m ≤ 9223372036854775807)
    (h : ∀ v' w', Own w' e size v' (n + m) (xs ++ news) → Tr (ob (a.eval s)) w w' → (∀ x ∈ ob v', x ∈ ob (a.eval s) ∨ w.heap.size ≤ x) → wpList P ops Q rest (a.put o.dst v') w') : wpList P ops Q (o :: rest) a w :=
  wpList_plain hgd fun K hK => wp_app s x t ho e size bytes E n m xs news hown hrd hn h63 fun v' w' g1 g2 g3 => hK _ _ (h v' w' g1 g2 g3)

/-! ### 5. Steps of a region in the order of its text -/
theorem wpT_plain {Q : Act → World → Prop} (hg : o.guard = none) (hs : Dr.Side w a.eval o) (h : ∀ K : Act → World → Prop, (∀ a w, Dr.wpT P ops Q rest a w → K a w) → o.wp P a w K Dr.noQ) : Dr.wpT P ops Q (o :: rest) a w := by
  show Dr.wpOne P ops o (Dr.wpT P ops Q rest) a w
  unfold Dr.wpOne
  rw [if_pos (by simp [Region.wanted, hg])]
  exact ⟨hs, h _ fun _ _ h => h⟩
theorem wpT_no {Q : Act → World → Prop} (hg : Region.wanted o (yielded ops a.tmps) = false) (h : Dr.wpT P ops Q rest (a.put o.dst undef) w) : Dr.wpT P ops Q (o :: rest) a w := by
  show Dr.wpOne P ops o (Dr.wpT P ops Q rest) a w
  unfold Dr.wpOne
  rw [hg]
  exact h
theorem wpT_yes {Q : Act → World → Prop} (hg : Region.wanted o (yielded ops a.tmps) = true) (hs : Dr.Side w a.eval o) (h : ∀ K : Act → World → Prop, (∀ a w, Dr.wpT P ops Q rest a w → K a w) → o.wp P a w K Dr.noQ) : Dr.wpT P ops Q (o :: rest) a w := by
  show Dr.wpOne P ops o (Dr.wpT P ops Q rest) a w
  unfold Dr.wpOne
  rw [if_pos hg]
  exact ⟨hs, h _ fun _ _ h => h⟩
theorem wpT_nil {Q : Act → World → Prop} (h : Q a w) : Dr.wpT P ops Q [] a w := h
end

/-! ### 6. A slice cut at its head -/
theorem RdV.tail {P : Program} {w : World} {t e size bytes n : Nat} (E : El P t e size bytes) {v : Value} {cs : List Value} (h : RdV w size v (n + 1) cs) :
    ∃ v', RdV w size v' n (cs.drop size) ∧ ∀ w', (Instr.sliceAt t v (some (.int .i64 1)) none none).run P w' = .ok v' w' := by
  obtain ⟨ht, hi, hsz⟩ := E
  obtain ⟨b, off, c, rfl, h1, h2, h3, h4⟩ := h.ptr (Nat.succ_pos n)
  have hsize : ∀ w', (sizeOf e).run P w' = .ok size w' := by
    intro w'
    cases hi0 : P.info? e with
    | none => rw [hi0] at hi; cases hi
    | some i =>
      rw [hi0] at hi
      simp only [Option.bind_some] at hi
      cases hz0 : i.zero with
      | none => rw [hz0] at hi; cases hi
      | some z =>
        rw [hz0] at hi
        simp only [Option.map_some, Option.some.injEq, Prod.mk.injEq] at hi
        simp [Go.sizeOf, Go.typeInfo, Go.program, hi0, Sem.run, hi.1]
  have hu : ∀ w', (underlying t).run P w' = .ok (.slice e) w' := fun w' => by simp [Go.underlying, Go.program, ht, Sem.run]
  refine ⟨.slice (if c = 1 then some ⟨b, off, none⟩ else some ⟨b, off + size, none⟩) n (c - 1), ⟨by rw [List.length_drop, h.len, Nat.add_mul]; omega, fun u hu => h.one u (List.mem_of_mem_drop hu), .inr ?_⟩, ?_⟩
  · refine ⟨if c = 1 then ⟨b, off, none⟩ else ⟨b, off + size, none⟩, c - 1, by split <;> rfl, by omega, by unfold maxLen; omega, fun hp => ?_⟩
    rw [if_neg (by omega)]
    refine ⟨b, off + size, rfl, h3, fun j u hj => ?_⟩
    rw [List.getElem?_drop] at hj
    rw [Nat.add_assoc]; exact h4 _ _ hj
  · intro w'
    have hadd : (⟨b, off, none⟩ : Addr).add size = ⟨b, off + size, none⟩ := by unfold Addr.add; rw [if_neg (by omega)]
    have hb : (Instr.sliceBounds true (n + 1) c (some (.int .i64 1)) none none).run P w' = .ok (1, n + 1, c) w' := by
      simp [Instr.sliceBounds, Instr.sliceBound, asIntOf]
      omega
    simp only [Instr.sliceAt, Instr.slice, Sem.run_bind, hu, Result.andThen_ok, hb, hsize]
    by_cases hc : c = 1
    · subst hc; simp
    · simp only [if_neg hc]
      have e1 : n + 1 - 1 = n := by omega
      simp [e1, hadd]

theorem rd_one (w : World) (e : TypeId) (u : Value) (h : u.oneCell' = true) : RdV (w.alloc (.cells #[u] e)) 1 (.slice (some ⟨w.heap.size, 0, none⟩) 1 1) 1 [u] :=
  ⟨rfl, by simpa using h, .inr ⟨_, 1, rfl, Nat.le_refl _, by decide, fun _ => ⟨w.heap.size, 0, rfl, by simp, fun j x hj => by
    match j, hj with
    | 0, hj => simp only [List.getElem?_cons_zero, Option.some.injEq] at hj; subst hj; rw [cell_cells (heap_new w _)]; rfl
    | j + 1, hj => simp at hj⟩⟩⟩

/-- The length in a slot. -/
def slen : Value → Nat
  | .slice _ n _ => n
  | _ => 0
theorem RdV.slen_eq {w : World} {size n : Nat} {v : Value} {cs : List Value} (h : RdV w size v n cs) : slen v = n := by
  obtain ⟨A, c, rfl, _⟩ := h.slice
  rfl
end Go.Proofs.Ytncnkfjddolabaa
