/- Walks: the reads of kmv, rice.Check, the fixed fact of layer 12, Add. -/
import Derived.Test.YtncnkfjddolabaaKm
set_option linter.unusedVariables false
set_option linter.unusedSimpArgs false
namespace Go.Proofs.Ytncnkfjddolabaa
open Go Go.RowKit

/-- Each less than the next. -/
def Rises (xs : List Int) : Prop := ∀ j, j + 1 < xs.length → xs.getD j 0 < xs.getD (j + 1) 0
def sint : Value → Nat
  | .int _ n => n.toNat
  | _ => 0
theorem sint_int (k : IntKind) (n : Int) : sint (.int k n) = n.toNat := rfl
theorem iv_get {k : IntKind} {xs : List Int} {j : Nat} (h : j < xs.length) : (iv k xs)[j]? = some (.int k (xs.getD j 0)) := by
  simp [iv, List.getElem?_eq_getElem h]

set_option maxHeartbeats 2000000 in
theorem rice_check_ok (w : World) (v : Value) (xs : List Int) (h : RdV w 1 v xs.length (iv .u64 xs)) (hl : xs.length ≤ 4096) (hr : Rises xs) :
    Calls Try.prog 44 #[v] w fun e w' => e = .returned (.int .i64 0) ∧ Tr [] w w' := by
  obtain ⟨A, c, rfl, hoc⟩ := h.slice
  have hbig : decide ((4096 : Int) < xs.length) = false := decide_eq_false (by omega)
  go_enter Try.func44, Try.ntmps44
  go_wp2
  go_loopw [3] (fun a wr => ∃ i : Nat, a = .int .i64 ((i : Int) + 1) ∧ (i < xs.length ∨ xs.length = 0 ∧ i = 0) ∧ Tr [] w wr) (fun a _ => xs.length + 1 - sint a)
  case atStart => exact ⟨0, by simp, by omega, by first | exact Tr.refl [] w | skip⟩
  case round =>
    obtain ⟨i, rfl, hi, ht⟩ := hrel
    by_cases hlt : i + 1 < xs.length
    · have h2 := h.keep' ht
      obtain ⟨b, f, c', hv, hc2, hm2, hb2, hcell2⟩ := h2.ptr (by omega)
      cases hv
      have c1 := hcell2 i _ (iv_get (by omega))
      have c2 := hcell2 (i + 1) _ (iv_get hlt)
      have hlt' : ((i : Int) + 1 < xs.length) := by omega
      have hs := hr i hlt
      generalize xs.getD i 0 = p at c1 hs
      generalize xs.getD (i + 1) 0 = q at c2 hs
      have hd : decide (q ≤ p) = false := decide_eq_false (by omega)
      clear hcell2 hs
      go_wp2
      go_quiet (fail)
      go_wp2
      go_roundw
      case rel => exact ⟨i + 1, by simp, by omega, ht.drewN _⟩
      case measure => simp only [sint_int]; omega
    · have hd : decide ((i : Int) + 1 < xs.length) = false := decide_eq_false (by omega)
      go_wp2
      go_ret
      exact ⟨rfl, ht⟩

/-- A Kmv as a value. -/
def Kmv.At (w : World) (k : Int) (xs : List Int) (v : Value) : Prop := ∃ s, v = .agg #[.int .i64 k, s] ∧ RdV w 1 s xs.length (iv .u64 xs)

set_option maxHeartbeats 4000000 in
theorem kmv_check_ok (w : World) (k : Int) (s : Value) (xs : List Int) (h : RdV w 1 s xs.length (iv .u64 xs)) (h1 : 1 ≤ k) (hk : k ≤ 1024) (hl : xs.length ≤ k) (hr : Rises xs) :
    Calls Try.prog 26 #[.agg #[.int .i64 k, s]] w fun e w' => e = .returned (.int .i64 0) ∧ Tr [] w w' := by
  obtain ⟨A, c, rfl, hoc⟩ := h.slice
  have d1 : decide (k < 1) = false := decide_eq_false (by omega)
  have d2 : decide (1024 < k) = false := decide_eq_false (by omega)
  have d3 : decide (k < xs.length) = false := decide_eq_false (by omega)
  have R := fun w' ht => rice_check_ok w' _ xs (h.keep' ht) (by omega) hr
  clear hl h1 hk
  go_enter Try.func26, Try.ntmps26
  go_wp2_with (go_at_call 44; refine (R _ ((Tr.refl [] w).alloc _)).mono ?_; rintro e w' ⟨rfl, ht⟩)
  go_ret
  exact ⟨rfl, ((Tr.refl [] w).alloc _).trans ht (by simp)⟩

set_option maxHeartbeats 4000000 in
theorem kmv_same_ok (w : World) (k : Int) (s t : Value) (xs : List Int) (h : RdV w 1 s xs.length (iv .u64 xs)) (h' : RdV w 1 t xs.length (iv .u64 xs)) :
    Calls Try.prog 27 #[.agg #[.int .i64 k, s], .agg #[.int .i64 k, t]] w fun e w' => e = .returned (.bool true) ∧ Tr [] w w' := by
  obtain ⟨A, c, rfl, hoc⟩ := h.slice
  obtain ⟨A', c', rfl, hoc'⟩ := h'.slice
  go_enter Try.func27, Try.ntmps27
  go_wp2
  go_loopw [23] (fun a wr => ∃ i : Nat, a = .int .i64 i ∧ i ≤ xs.length ∧ Tr [] ((w.alloc (.cells #[.int .i64 k, .slice A xs.length c] 55)).alloc (.cells #[.int .i64 k, .slice A' xs.length c'] 55)) wr) (fun a _ => xs.length - sint a)
  case atStart => exact ⟨0, by simp, by omega, by exact Tr.refl [] _⟩
  case round =>
    obtain ⟨i, rfl, hi, ht⟩ := hrel
    by_cases hlt : i < xs.length
    · have g1 := (h.keep' (((Tr.refl [] w).alloc _).alloc _)).keep' ht
      have g2 := (h'.keep' (((Tr.refl [] w).alloc _).alloc _)).keep' ht
      obtain ⟨b1, f1, c1, hv1, hc1, hm1, hb1, hcell1⟩ := g1.ptr (by omega)
      obtain ⟨b2, f2, c2, hv2, hc2, hm2, hb2, hcell2⟩ := g2.ptr (by omega)
      cases hv1
      cases hv2
      have e1 := hcell1 i _ (iv_get (by omega))
      have e2 := hcell2 i _ (iv_get (by omega))
      have k1 := (ht.cell (p := ⟨w.heap.size, 1, none⟩) (by simp; omega) (by simp)).trans (cell_cells (heap_old _ (heap_new w _)) 1)
      have k2 := (ht.cell (p := ⟨w.heap.size + 1, 1, none⟩) (by simp) (by simp)).trans (cell_cells (heap_new' (w := w.alloc _) _ (by rw [szA])) 1)
      simp at k1 k2
      have hlt' : ((i : Int) < xs.length) := by omega
      generalize xs.getD i 0 = p at e1 e2
      clear hcell1 hcell2
      go_wp2
      go_quiet (fail)
      go_wp2
      go_roundw
      case rel => exact ⟨i + 1, by simp, by omega, ht.drewN _⟩
      case measure => simp only [sint_int]; omega
    · obtain rfl : i = xs.length := by omega
      go_wp2
      go_ret
      exact ⟨rfl, (((Tr.refl [] w).alloc _).alloc _).trans ht (by simp)⟩

set_option maxRecDepth 100000 in
set_option maxHeartbeats 4000000 in
theorem kmv_add (w : World) (k h : Int) (vx : Value) (xs : List Int) (hx : RdV w 1 vx xs.length (iv .u64 xs)) (hk : k < 4294967296) (h0 : 0 ≤ k) (hxl : xs.length < 4294967296) :
    Calls Try.prog 43 #[.agg #[.int .i64 k, vx], .int .u64 h] w (Kmv.Gives w k ((Kmv.union xs [h]).take k.toNat)) := by
  obtain ⟨zs, hz⟩ : ∃ zs, zs = (Kmv.union xs [h]).take k.toNat := ⟨_, rfl⟩
  rw [← hz]
  have M : Calls Try.prog 66 #[.agg #[.int .i64 k, vx], .agg #[.int .i64 k, .slice (some ⟨w.heap.size + 1 + 1, 0, none⟩) 1 1]]
      (((w.alloc (.cells #[.int .i64 k, vx] 55)).alloc (.cells #[.int .i64 0, .slice none 0 0] 55)).alloc (.cells #[.int .u64 h] 22))
      fun e w' => ∃ v, e = .returned (.agg #[.int .i64 k, v]) ∧ w'.heap[w.heap.size + 1]? = some (.cells #[.int .i64 0, .slice none 0 0] 55 (0, 0)) ∧
        Own w' 22 1 v zs.length (iv .u64 zs) ∧ Tr [] w w' ∧ ∀ x ∈ ob v, w.heap.size + 3 ≤ x := by
    have hv := rd_one ((w.alloc (.cells #[.int .i64 k, vx] 55)).alloc (.cells #[.int .i64 0, .slice none 0 0] 55)) 22 (.int .u64 h) rfl
    rw [szA, szA] at hv
    rw [hz]
    refine (kmv_merge _ k k vx _ xs [h] (hx.keep' ((((Tr.refl [] w).alloc _).alloc _).alloc _)) hv hk h0 hxl (by simp)).mono ?_
    rintro e w' ⟨v, rfl, hown, ht, hf⟩
    refine ⟨v, rfl, ?_, hown, ((((Tr.refl [] w).alloc _).alloc _).alloc _).trans ht (by simp), fun x hx => ?_⟩
    · rw [ht.block _ (by simp only [szA]; omega) (by simp)]
      exact heap_old _ (heap_new' (w := w.alloc _) _ (by rw [szA]))
    · have := hf x hx
      simp only [szA] at this
      omega
  clear hz
  go_enter Try.func43, Try.ntmps43
  go_wp2_with (go_at_call 66; refine M.mono ?_; rintro e w' ⟨v, rfl, hc, hown, ht, hf⟩; obtain ⟨A, c, rfl, _⟩ := hown.rd.slice; have f0 := frozen_cells hc 0; have f1 := frozen_cells hc 1; have c0 := cell_cells hc 0; have c1 := cell_cells hc 1; simp at c0 c1)
  have hne : ∀ x ∈ ob (.slice A zs.length c), x ∉ [w.heap.size + 1] := fun x hx => by have := hf x hx; simp; omega
  refine bodyPost_ret (v := .agg #[.int .i64 k, .slice A zs.length c]) (by simp [results, Try.results43, go_sem, c0, c1]) rfl ?_
  exact ⟨_, rfl, hown.keep (((Tr.refl _ _).setCell (by simp) _).setCell (by simp) _) hne, (ht.setCell (.inr (by simp)) _).setCell (.inr (by simp)) _, fun x hx => by have := hf x hx; omega⟩

/-! The fixed fact. -/
set_option maxRecDepth 100000 in
set_option maxHeartbeats 4000000 in
theorem len64_fix (w : World) : Calls Try.prog 77 #[.int .u64 9223372036854775808] w fun e w' => e = .returned (.int .i64 64) ∧ w = w' := by
  go_enter Try.func77, Try.ntmps77
  go_wp2
  go_ret
  exact ⟨by kernel_rfl, rfl⟩
set_option maxRecDepth 100000 in
theorem lz64_fix (w : World) : Calls Try.prog 75 #[.int .u64 9223372036854775808] w fun e w' => e = .returned (.int .i64 0) ∧ w = w' := by
  go_enter Try.func75, Try.ntmps75
  go_wp2_with (go_at_call 77; refine (len64_fix _).mono ?_; rintro e w' ⟨rfl, rfl⟩)
  go_ret
  exact ⟨rfl, rfl⟩
theorem bor10 : bits BinOp.or IntKind.u64 1 0 = 1 := by kernel_rfl
theorem band1 : bits BinOp.and IntKind.u64 9223372036854775808 4294967295 = 0 := by kernel_rfl
theorem band2 : bits BinOp.and IntKind.u64 0 4294967295 = 0 := by kernel_rfl
set_option maxRecDepth 100000 in
set_option maxHeartbeats 8000000 in
theorem div64_fix (w : World) : Calls Try.prog 65 #[.int .u64 1, .int .u64 0, .int .u64 9223372036854775808] w fun e w' => e = .returned (.tuple #[.int .u64 2, .int .u64 0]) ∧ w = w' := by
  have b1 := bor10
  have b2 := band1
  have b3 := band2
  go_enter Try.func65, Try.ntmps65
  go_wp2_with (go_at_call 75; refine (lz64_fix _).mono ?_; rintro e w' ⟨rfl, rfl⟩)
  go_loopw [15, 16] (fun a b wr => a = .int .u64 0 ∧ b = .int .u64 1 ∧ w = wr) (fun _ _ _ => 0)
  case atStart => exact ⟨rfl, rfl, rfl⟩
  case round =>
    obtain ⟨rfl, rfl, hw⟩ := hrel
    go_wp2
    go_loopw [18, 16] (fun a b wr2 => a = .int .u64 2 ∧ b = .int .u64 0 ∧ w = wr2) (fun _ _ _ => 0)
    case atStart => exact ⟨rfl, rfl, hw⟩
    case round =>
      obtain ⟨rfl, rfl, hw2⟩ := hrel
      go_wp2
      refine bodyPost_ret (v := .tuple #[.int .u64 2, .int .u64 0]) (by simp [results, Try.results65, go_sem]; kernel_rfl) rfl ?_
      exact ⟨rfl, hw2⟩

theorem lt_of_cell {w : World} {b o : Nat} {v : Value} (h : w.cell? ⟨b, o, none⟩ = some v) : b < w.heap.size := by
  unfold World.cell? at h
  cases e : w.heap[b]? with
  | none => simp [e] at h
  | some x => exact lt_of_heap e

set_option maxHeartbeats 4000000 in
theorem about_fix (w : World) (b : Nat) (h0 : w.cell? ⟨b, 0, none⟩ = some (.int .u64 1)) (h1 : w.cell? ⟨b, 1, none⟩ = some (.int .u64 9223372036854775807)) :
    Calls Try.prog 42 #[.agg #[.int .i64 2, .slice (some ⟨b, 0, none⟩) 2 2]] w fun e w' => e = .returned (.int .u64 2) ∧ Tr [] w w' := by
  have hb := lt_of_cell h0
  have h1' : (w.alloc (.cells #[.int .i64 2, .slice (some ⟨b, 0, none⟩) 2 2] 55)).cell? ⟨b, 1, none⟩ = some (.int .u64 9223372036854775807) := (((Tr.refl [] w).alloc _).cell (p := ⟨b, 1, none⟩) hb (by simp)).trans h1
  go_enter Try.func42, Try.ntmps42
  go_wp2_with (go_at_call 65; refine (div64_fix _).mono ?_; rintro e w' ⟨rfl, rfl⟩)
  go_ret
  exact ⟨rfl, (Tr.refl [] w).alloc _⟩

set_option maxHeartbeats 4000000 in
theorem awake12 (w : World) : Calls Try.prog 24 #[] w fun e w' => e = .returned (.bool true) ∧ Tr [] w w' := by
  have A := fun c1 c2 => about_fix (w.alloc (.cells #[.int .u64 1, .int .u64 9223372036854775807] 22)) w.heap.size c1 c2
  have A := A (cell_cells (heap_new w _) 0) (cell_cells (heap_new w _) 1)
  go_enter Try.func24, Try.ntmps24
  go_wp2_with (go_at_call 42; refine A.mono ?_; rintro e w' ⟨rfl, ht⟩)
  go_ret
  exact ⟨rfl, ((Tr.refl [] w).alloc _).trans ht (by simp)⟩

end Go.Proofs.Ytncnkfjddolabaa
