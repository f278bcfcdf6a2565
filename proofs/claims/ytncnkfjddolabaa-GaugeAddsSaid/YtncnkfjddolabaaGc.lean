/- Walks: gauge.Check, gauge.Same. -/
import Derived.Test.YtncnkfjddolabaaGb
set_option linter.unusedVariables false
set_option linter.unusedSimpArgs false
namespace Go.Proofs.Ytncnkfjddolabaa
open Go Go.RowKit Go.Shelf

/-- A row of floats doesn't fall. -/
def Risen (xs : List Nat) : Prop := ∀ j, j + 1 < xs.length → ¬ Fl.keyT (xs.getD (j + 1) 0) < Fl.keyT (xs.getD j 0)
def RisenTo (xs : List Nat) (n : Nat) : Prop := ∀ j, j + 1 < n → ¬ Fl.keyT (xs.getD (j + 1) 0) < Fl.keyT (xs.getD j 0)
theorem float_self {b : Nat} (hb : b < 18446744073709551616) : (FloatKind.f64.format.order b b != some Ordering.eq) = Fl.nan b := Fl.t_ne hb

/-- What Check answers. -/
def checkT (k : Int) (xs : List Nat) (lo hi : Nat) (r : Int) : Prop :=
  ((k < 1 ∨ 16 < k ∨ k < xs.length) ∧ r = 2) ∨ ((1 ≤ k ∧ k ≤ 16 ∧ xs.length ≤ k) ∧ ((¬ Risen xs ∧ r = 8) ∨ (Risen xs ∧ (((Fl.nan lo || Fl.nan hi) = true ∧ r = 4) ∨ ((Fl.nan lo || Fl.nan hi) = false ∧ r = 0)))))

def RetInt (w : World) (Q : Int → Prop) (e : Ending) (w' : World) : Prop := ∃ r, e = .returned (.int .i64 r) ∧ Q r ∧ Tr [] w w'

set_option maxRecDepth 100000 in
set_option maxHeartbeats 16000000 in
theorem gauge_check (w : World) (k : Int) (x : Gn) (v : Value) (xs : List Nat) (hx : RdV w 1 v xs.length (fv xs)) (hl : xs.length < 4294967296) (hlo : Hid (x.lo < 18446744073709551616)) (hhi : Hid (x.hi < 18446744073709551616)) :
    Calls Try.prog 20 #[.agg (x.val k v)] w (RetInt w (checkT k xs x.lo x.hi)) := by
  obtain ⟨A, c, rfl, hoc⟩ := hx.slice
  have L := float_self hlo.out
  have H2 := float_self hhi.out
  by_cases h1 : k < 1
  · have d1 : decide (k < 1) = true := decide_eq_true h1
    go_enter Try.func20, Try.ntmps20
    go_wp2
    go_ret
    exact ⟨2, rfl, .inl ⟨.inl h1, rfl⟩, (Tr.refl [] w).alloc _⟩
  have d1 : decide (k < 1) = false := decide_eq_false h1
  by_cases h2 : 16 < k
  · have d2 : decide (16 < k) = true := decide_eq_true h2
    have X : Hid (k < 1 ∨ 16 < k ∨ k < xs.length) := Lib.hid (.inr (.inl h2))
    clear h1 h2
    go_enter Try.func20, Try.ntmps20
    go_wp2
    go_ret
    exact ⟨2, rfl, .inl ⟨X.out, rfl⟩, (Tr.refl [] w).alloc _⟩
  have d2 : decide (16 < k) = false := decide_eq_false h2
  by_cases h3 : k < xs.length
  · have d3 : decide (k < xs.length) = true := decide_eq_true h3
    have X : Hid (k < 1 ∨ 16 < k ∨ k < xs.length) := Lib.hid (.inr (.inr h3))
    clear h1 h2 h3
    go_enter Try.func20, Try.ntmps20
    go_wp2
    go_ret
    exact ⟨2, rfl, .inl ⟨X.out, rfl⟩, (Tr.refl [] w).alloc _⟩
  have d3 : decide (k < xs.length) = false := decide_eq_false h3
  have X : Hid (1 ≤ k ∧ k ≤ 16 ∧ xs.length ≤ k) := Lib.hid ⟨by omega, by omega, by omega⟩
  have H := Lib.hid hx
  clear h1 h2 h3 hx
  go_enter Try.func20, Try.ntmps20
  go_wp2
  go_loopw [24] (fun vi wr => ∃ i : Nat, vi = .int .i64 i ∧ i ≤ xs.length ∧ Hid (RisenTo xs i) ∧ wr = w.alloc (.cells (x.val k (.slice A xs.length c)) 37)) (fun vi _ => xs.length - gint vi)
  case atStart => exact ⟨0, rfl, by omega, Lib.hid (fun j hj => by omega), rfl⟩
  case round =>
    obtain ⟨i, rfl, hi, hr, hwr⟩ := hrel
    have T : Tr [] w wr := by rw [hwr]; exact (Tr.refl [] w).alloc _
    have s := (show wr.heap[w.heap.size]? = some (.cells (x.val k (.slice A xs.length c)) 37 (0, 0)) by rw [hwr]; exact heap_new _ _)
    have s8 := cell_cells s 8
    have s9 := cell_cells s 9
    have sA := cell_cells s 10
    simp at s8 s9 sA
    have HWR := Lib.hid hwr
    clear hwr
    by_cases hlt : i < xs.length
    · have hlt' : (i : Int) < xs.length := by omega
      obtain ⟨b, f, c', hv, _, _, _, hcell⟩ := (H.out.keep' T).ptr (by omega)
      cases hv
      have e1 := hcell i _ (fv_get hlt)
      rcases Nat.eq_zero_or_pos i with rfl | hp
      · generalize xs.getD 0 0 = p at e1
        clear hcell
        simp only [Nat.add_zero] at e1
        go_wp2
        go_roundw
        case rel => exact ⟨1, by simp, by omega, Lib.hid (fun j hj => by omega), HWR.out⟩
        case measure => simp only [gint]; omega
      · obtain ⟨j, rfl⟩ : ∃ j, i = j + 1 := ⟨i - 1, by omega⟩
        have e0 := hcell j _ (fv_get (by omega))
        have ej : ((j + 1 : Nat) : Int) - 1 = j := by omega
        by_cases hk : Fl.keyT (xs.getD (j + 1) 0) < Fl.keyT (xs.getD j 0)
        · have LS : ∀ w', Calls Try.prog 30 #[.float .f64 (xs.getD (j + 1) 0), .float .f64 (xs.getD j 0)] w' fun e w'' => e = .returned (.bool true) ∧ w' = w'' := fun w' => by
            have := less_any (xs.getD (j + 1) 0) (xs.getD j 0) w'; rw [decide_eq_true hk] at this; exact this
          have NR : Hid (¬ Risen xs) := Lib.hid (fun h => h j hlt hk)
          have HL := Lib.hid LS
          generalize xs.getD (j + 1) 0 = q at e1 HL
          generalize xs.getD j 0 = p at e0 HL
          clear hcell LS hk
          go_wp2_with (go_at_call 30; refine (HL.out _).mono ?_; rintro e w' ⟨rfl, rfl⟩)
          go_ret
          exact ⟨8, rfl, .inr ⟨X.out, .inl ⟨NR.out, rfl⟩⟩, T⟩
        · have LS : ∀ w', Calls Try.prog 30 #[.float .f64 (xs.getD (j + 1) 0), .float .f64 (xs.getD j 0)] w' fun e w'' => e = .returned (.bool false) ∧ w' = w'' := fun w' => by
            have := less_any (xs.getD (j + 1) 0) (xs.getD j 0) w'; rw [decide_eq_false hk] at this; exact this
          have NR : Hid (RisenTo xs (j + 1 + 1)) := Lib.hid (fun a ha => by
            by_cases hj : a = j
            · subst hj; exact hk
            · exact hr.out a (by omega))
          have HL := Lib.hid LS
          generalize xs.getD (j + 1) 0 = q at e1 HL
          generalize xs.getD j 0 = p at e0 HL
          clear hcell LS hk
          go_wp2_with (go_at_call 30; refine (HL.out _).mono ?_; rintro e w' ⟨rfl, rfl⟩)
          go_roundw
          case rel => exact ⟨j + 1 + 1, by simp, by omega, NR, HWR.out⟩
          case measure => simp only [gint]; omega
    · obtain rfl : i = xs.length := by omega
      have RR : Hid (Risen xs) := hr
      cases hn : Fl.nan x.lo
      · rw [hn] at L
        cases hm : Fl.nan x.hi
        · rw [hm] at H2
          have HN := Lib.hid (And.intro hn hm)
          clear hn hm
          go_wp2
          go_ret
          exact ⟨0, rfl, .inr ⟨X.out, .inr ⟨RR.out, .inr ⟨by rw [HN.out.1, HN.out.2]; rfl, rfl⟩⟩⟩, T⟩
        · rw [hm] at H2
          have HN := Lib.hid (And.intro hn hm)
          clear hn hm
          go_wp2
          go_ret
          exact ⟨4, rfl, .inr ⟨X.out, .inr ⟨RR.out, .inl ⟨by rw [HN.out.1, HN.out.2]; rfl, rfl⟩⟩⟩, T⟩
      · rw [hn] at L
        have HN := Lib.hid hn
        clear hn
        go_wp2
        go_ret
        exact ⟨4, rfl, .inr ⟨X.out, .inr ⟨RR.out, .inl ⟨by rw [HN.out]; rfl, rfl⟩⟩⟩, T⟩
end Go.Proofs.Ytncnkfjddolabaa
