/- Walks: the small functions on floats and counts (Plus, Min, Max, Same, Of, ref09.Less), gauge.New, gauge.one. -/
import Derived.Test.YtncnkfjddolabaaProg
import Derived.Test.YtncnkfjddolabaaMem
import Derived.Test.YtncnkfjddolabaaGp
import Derived.Test.YtncnkfjddolabaaFw2
set_option linter.unusedVariables false
set_option linter.unusedSimpArgs false
namespace Go.Proofs.Ytncnkfjddolabaa
open Go Go.RowKit

theorem heap_at {w : World} {k : Nat} (o : Obj) (h : k = w.heap.size) : (w.alloc o).heap[k]? = some o := by subst h; exact heap_new w o
theorem szB (w : World) (o : Obj) : (w.alloc o).heap.size = w.heap.size + 1 := World.size_alloc w o
def plus (a b : Int) : Int := if a + b < 4294967296 then a + b else 4294967295
theorem plus_range {a b : Int} (ha : 0 ≤ a) (hb : 0 ≤ b) : 0 ≤ plus a b ∧ plus a b < 4294967296 := by unfold plus; split <;> omega

theorem plus_any (a b : Int) (ha : 0 ≤ a) (ha2 : a < 4294967296) (hb : 0 ≤ b) (hb2 : b < 4294967296) (w : World) :
    Calls Try.prog 70 #[.int .u32 a, .int .u32 b] w fun e w' => e = .returned (.int .u32 (plus a b)) ∧ w = w' := by
  by_cases h : a + b < 4294967296
  · have e : plus a b = a + b := if_pos h
    have hw : IntKind.u32.wrap (a + b) = a + b := by rw [IntKind.wrap_u32]; omega
    have ht : decide (a ≤ a + b) = true := decide_eq_true (by omega)
    rw [e]
    clear e
    go_enter Try.func70, Try.ntmps70
    go_wp2
    go_ret
    exact ⟨rfl, rfl⟩
  · have e : plus a b = 4294967295 := if_neg h
    have hw : IntKind.u32.wrap (a + b) = a + b - 4294967296 := by rw [IntKind.wrap_u32]; omega
    have ht : decide (a ≤ a + b - 4294967296) = false := decide_eq_false (by omega)
    rw [e]
    clear e
    go_enter Try.func70, Try.ntmps70
    go_wp2
    go_ret
    exact ⟨rfl, rfl⟩

theorem min_any (a b : Nat) (w : World) : Calls Try.prog 71 #[.float .f64 a, .float .f64 b] w fun e w' => e = .returned (.float .f64 (Fl.minT a b)) ∧ w = w' := by
  cases h : decide (Fl.keyT b < Fl.keyT a)
  all_goals
    have HH := Lib.hid h
    clear h
    go_enter Try.func71, Try.ntmps71
    go_wp2_with (go_at_call 30; refine (less_any _ _ _).mono ?_; rintro e w' ⟨rfl, rfl⟩; rw [HH.out])
    go_ret
    refine ⟨?_, rfl⟩
    have h := HH.out
    unfold Fl.minT
    simp at h
    first | (rw [if_pos h]; done) | (rw [if_pos h]; rfl) | (rw [if_neg (by omega)]; done) | (rw [if_neg (by omega)]; rfl)
theorem max_any (a b : Nat) (w : World) : Calls Try.prog 72 #[.float .f64 a, .float .f64 b] w fun e w' => e = .returned (.float .f64 (Fl.maxT a b)) ∧ w = w' := by
  cases h : decide (Fl.keyT a < Fl.keyT b)
  all_goals
    have HH := Lib.hid h
    clear h
    go_enter Try.func72, Try.ntmps72
    go_wp2_with (go_at_call 30; refine (less_any _ _ _).mono ?_; rintro e w' ⟨rfl, rfl⟩; rw [HH.out])
    go_ret
    refine ⟨?_, rfl⟩
    have h := HH.out
    unfold Fl.maxT
    simp at h
    first | (rw [if_pos h]; done) | (rw [if_pos h]; rfl) | (rw [if_neg (by omega)]; done) | (rw [if_neg (by omega)]; rfl)
theorem fsame_any (a b : Nat) (w : World) : Calls Try.prog 19 #[.float .f64 a, .float .f64 b] w fun e w' => e = .returned (.bool (Fl.keyT a == Fl.keyT b)) ∧ w = w' := by
  go_enter Try.func19, Try.ntmps19
  go_wp2_with (go_at_call 29; refine (key_any _ _).mono ?_; rintro e w' ⟨rfl, rfl⟩)
  go_ret
  exact ⟨rfl, rfl⟩
theorem of_any (k : Int) (w : World) : Calls Try.prog 73 #[.int .u64 k] w fun e w' => e = .returned (.tuple #[.float .f64 (Fl.ofT k), .bool (Fl.keyT (Fl.ofT k) == k)]) ∧ w = w' := by
  have h3 := run_frombits
  obtain ⟨f, hf⟩ : ∃ f, f = Fl.ofT k := ⟨_, rfl⟩
  rw [← hf]
  unfold Fl.ofT at hf
  cases h : (bits .and .u64 k 9223372036854775808 == 0)
  · rw [h, if_neg (by simp)] at hf
    have HF := Lib.hid hf
    clear hf
    go_enter Try.func73, Try.ntmps73
    go_wp2_with (go_at_call 29; refine (key_any _ _).mono ?_; rintro e w' ⟨rfl, rfl⟩; rw [← HF.out])
    exact bodyPost_ret (v := .tuple #[.float .f64 f, .bool (Fl.keyT f == k)]) (by simp [results, Try.results73, go_sem, ← HF.out]) rfl ⟨rfl, rfl⟩
  · rw [h, if_pos rfl] at hf
    have HF := Lib.hid hf
    clear hf
    go_enter Try.func73, Try.ntmps73
    go_wp2_with (go_at_call 29; refine (key_any _ _).mono ?_; rintro e w' ⟨rfl, rfl⟩; rw [← HF.out])
    exact bodyPost_ret (v := .tuple #[.float .f64 f, .bool (Fl.keyT f == k)]) (by simp [results, Try.results73, go_sem, ← HF.out]) rfl ⟨rfl, rfl⟩

/-- The document's place and order. -/
theorem plT_any (b : Nat) (hb : b < 18446744073709551616) (w : World) : Calls Try.prog 9 #[.float .f64 b] w fun e w' => e = .returned (.int .i64 (Fl.plT b)) ∧ w = w' := by
  unfold Fl.plT
  by_cases h0 : b = 0
  · subst h0; rw [if_pos rfl]; exact place_0 w
  · by_cases h1 : b = 9223372036854775808
    · subst h1; rw [if_neg h0, if_pos rfl]; exact place_1 w
    · rw [if_neg h0, if_neg h1]
      refine place_any b w ?_
      cases hz : (FloatKind.f64.format.order b 0 == some Ordering.eq)
      · rfl
      · rcases Fl.zeros hb hz with rfl | rfl
        · exact absurd rfl h0
        · exact absurd rfl h1
theorem rless_any (a b : Nat) (ha : a < 18446744073709551616) (hb : b < 18446744073709551616) (w : World) :
    Calls Try.prog 16 #[.float .f64 a, .float .f64 b] w fun e w' => e = .returned (.bool (decide (Fl.keyT a < Fl.keyT b))) ∧ w = w' := by
  have h := Fl.less_law ha hb
  have PA := fun w => plT_any a ha w
  have PB := fun w => plT_any b hb w
  generalize Fl.plT a = p at h PA
  generalize Fl.plT b = q at h PB
  have HA := Lib.hid PA
  have HB := Lib.hid PB
  have HH := Lib.hid h
  clear PA PB h
  by_cases hpq : p = q
  · have h1 : (p == q) = true := by simp [hpq]
    have h2 : (p != q) = false := by simp [hpq]
    have hh := HH.out
    rw [if_pos hpq] at hh
    rw [← hh]
    clear hh hpq
    go_enter Try.func16, Try.ntmps16
    go_wp2_with (first | (go_at_call 9; (with_reducible refine (HA.out _).mono ?_); rintro e w' ⟨rfl, rfl⟩) | (go_at_call 9; (with_reducible refine (HB.out _).mono ?_); rintro e w' ⟨rfl, rfl⟩))
    go_ret
    exact ⟨rfl, rfl⟩
  · have h1 : (p == q) = false := by simp [hpq]
    have h2 : (p != q) = true := by simp [hpq]
    have hh := HH.out
    rw [if_neg hpq] at hh
    rw [← hh]
    clear hh hpq
    go_enter Try.func16, Try.ntmps16
    go_wp2_with (first | (go_at_call 9; (with_reducible refine (HA.out _).mono ?_); rintro e w' ⟨rfl, rfl⟩) | (go_at_call 9; (with_reducible refine (HB.out _).mono ?_); rintro e w' ⟨rfl, rfl⟩))
    go_ret
    exact ⟨rfl, rfl⟩

/-! ### Gauges as values -/
def fv (xs : List Nat) : List Value := xs.map (Value.float .f64)
theorem fv_len (xs : List Nat) : (fv xs).length = xs.length := by simp [fv]
theorem fv_get {xs : List Nat} {j : Nat} (h : j < xs.length) : (fv xs)[j]? = some (.float .f64 (xs.getD j 0)) := by simp [fv, List.getElem?_eq_getElem h]
theorem fv_one {xs : List Nat} {u : Value} (h : u ∈ fv xs) : u.oneCell' = true := by
  simp only [fv, List.mem_map] at h
  obtain ⟨x, _, rfl⟩ := h
  rfl
abbrev Gv (k many e0 e1 e2 e3 e4 e5 : Int) (lo hi : Nat) (v : Value) : Array Value :=
  #[.int .i64 k, .int .u32 many, .int .u32 e0, .int .u32 e1, .int .u32 e2, .int .u32 e3, .int .u32 e4, .int .u32 e5, .float .f64 lo, .float .f64 hi, v]
/-- Gauge's New, with the fixed infinities. -/
abbrev fInf : Nat := 9218868437227405312
abbrev fNinf : Nat := 18442240474082181120
theorem inf_p (w : World) : Calls Try.prog 14 #[.int .i64 1] w fun e w' => e = .returned (.float .f64 fInf) ∧ w = w' := inf_any 1 w
theorem inf_n (w : World) : Calls Try.prog 14 #[.int .i64 (-1)] w fun e w' => e = .returned (.float .f64 fNinf) ∧ w = w' := inf_any (-1) w

/-- A float's store: the kit's laws name every kind but this one. -/
theorem store_f (w : World) (a : Addr) (b : Nat) (m : Mode) : (store a (.float .f64 b) m).run Try.prog w = stored Try.prog w a (.float .f64 b) m := run_store Try.prog w a _ m rfl

set_option maxHeartbeats 4000000 in
theorem gnew_ok (k : Int) (h1 : 1 ≤ k) (h2 : k ≤ 16) (w : World) : Calls Try.prog 22 #[.int .i64 k] w fun e w' =>
    e = .returned (.tuple #[.agg (Gv k 0 0 0 0 0 0 0 fInf fNinf (.slice none 0 0)), .bool true]) ∧ Tr [] w w' := by
  have d1 : decide (k < 1) = false := decide_eq_false (by omega)
  have d2 : decide (16 < k) = false := decide_eq_false (by omega)
  have sf := store_f
  go_enter Try.func22, Try.ntmps22
  go_wp2_with (first | (go_at_call 14; (with_reducible refine (inf_p _).mono ?_); rintro e w' ⟨rfl, rfl⟩) | (go_at_call 14; (with_reducible refine (inf_n _).mono ?_); rintro e w' ⟨rfl, rfl⟩))
  exact bodyPost_ret (v := .tuple #[.agg (Gv k 0 0 0 0 0 0 0 fInf fNinf (.slice none 0 0)), .bool true]) (by simp [results, Try.results22, go_sem]) rfl ⟨rfl, (Tr.refl [] w).alloc _⟩

set_option maxHeartbeats 4000000 in
theorem gnew_no (k : Int) (h : k < 1 ∨ 16 < k) (w : World) : Calls Try.prog 22 #[.int .i64 k] w fun e w' =>
    e = .returned (.tuple #[.agg (Gv 0 0 0 0 0 0 0 0 0 0 (.slice none 0 0)), .bool false]) ∧ Tr [] w w' := by
  have sf := store_f
  by_cases c : k < 1
  · have d1 : decide (k < 1) = true := decide_eq_true c
    go_enter Try.func22, Try.ntmps22
    go_wp2
    exact bodyPost_ret (v := .tuple #[.agg (Gv 0 0 0 0 0 0 0 0 0 0 (.slice none 0 0)), .bool false]) (by simp [results, Try.results22, go_sem]) rfl ⟨rfl, (Tr.refl [] w).alloc _⟩
  · have d1 : decide (k < 1) = false := decide_eq_false c
    have d2 : decide (16 < k) = true := decide_eq_true (by omega)
    clear h c
    go_enter Try.func22, Try.ntmps22
    go_wp2
    exact bodyPost_ret (v := .tuple #[.agg (Gv 0 0 0 0 0 0 0 0 0 0 (.slice none 0 0)), .bool false]) (by simp [results, Try.results22, go_sem]) rfl ⟨rfl, (Tr.refl [] w).alloc _⟩

theorem one_rd (w : World) (c : Nat) {e : TypeId} {u : Value} {B : Nat} (hB : B = c) (h : w.heap[B]? = some (.cells #[u] e (0, 0))) (h1 : u.oneCell' = true := by rfl) : RdV w 1 (.slice (some ⟨B, 0, none⟩) 1 1) 1 [u] :=
  ⟨rfl, by simpa using h1, .inr ⟨_, 1, rfl, Nat.le_refl _, by decide, fun _ => ⟨B, 0, rfl, lt_of_heap h, fun j x hj => by
    match j, hj with
    | 0, hj => simp only [List.getElem?_cons_zero, Option.some.injEq] at hj; subst hj; rw [cell_cells h]; rfl
    | j + 1, hj => simp at hj⟩⟩⟩
def hot (E i : Int) : Int := if E = i then 1 else 0
def Gg.low1 (b : Nat) : Nat := if Fl.nan b then fInf else b
def Gg.high1 (b : Nat) : Nat := if Fl.nan b then fNinf else b
/-- What 'one' gives. -/
def Gg.One (w : World) (k : Int) (b : Nat) (e : Ending) (w' : World) : Prop :=
  ∃ v, e = .returned (.agg (Gv k 1 (hot (Fl.edgeT b) 0) (hot (Fl.edgeT b) 1) (hot (Fl.edgeT b) 2) (hot (Fl.edgeT b) 3) (hot (Fl.edgeT b) 4) (hot (Fl.edgeT b) 5) (Gg.low1 b) (Gg.high1 b) v)) ∧
    RdV w' 1 v 1 (fv [Fl.cq b]) ∧ Tr [] w w'
theorem edge_range {b : Nat} (hb : b < 18446744073709551616) : Fl.edgeT b = 0 ∨ Fl.edgeT b = 1 ∨ Fl.edgeT b = 2 ∨ Fl.edgeT b = 3 ∨ Fl.edgeT b = 4 ∨ Fl.edgeT b = 5 := by
  rw [Fl.edge_eq hb]
  repeat' split
  all_goals simp
theorem nan_eq {b : Nat} (hb : b < 18446744073709551616) : (FloatKind.f64.format.order b b == some Ordering.eq) = !Fl.nan b := by
  have := Fl.t_ne hb
  rw [← this]
  simp [bne]
set_option maxRecDepth 100000 in
set_option maxHeartbeats 8000000 in
theorem gone (k : Int) (b : Nat) (hb : Hid (b < 18446744073709551616)) (w : World) : Calls Try.prog 53 #[.int .i64 k, .float .f64 b] w (Gg.One w k b) := by
  have sf := store_f
  have hn := nan_eq hb.out
  have E := edge_range hb.out
  obtain ⟨x, hx⟩ : ∃ x, x = Fl.cq b := ⟨_, rfl⟩
  have HX := Lib.hid (And.intro hx (Fl.ofT_key hb.out))
  clear hx
  cases hnb : Fl.nan b
  · rw [hnb] at hn
    simp only [Bool.not_false] at hn
    have HN := Lib.hid hnb
    clear hnb
    rcases E with E | E | E | E | E | E
    all_goals
      have HE := Lib.hid E
      clear E
      go_enter Try.func53, Try.ntmps53
      go_wp2_with (first
        | (go_at_call 14; (with_reducible refine (inf_p _).mono ?_); rintro e w' ⟨rfl, rfl⟩)
        | (go_at_call 14; (with_reducible refine (inf_n _).mono ?_); rintro e w' ⟨rfl, rfl⟩)
        | (go_at_call 11; refine (edge_any _ _).mono ?_; rintro e w' ⟨rfl, rfl⟩; rw [HE.out])
        | (go_at_call 29; refine (key_any _ _).mono ?_; rintro e w' ⟨rfl, rfl⟩)
        | (go_at_call 73; refine (of_any _ _).mono ?_; rintro e w' ⟨rfl, rfl⟩; rw [HX.out.2, ← HX.out.1]))
      refine bodyPost_ret (v := .agg (Gv k 1 (hot (Fl.edgeT b) 0) (hot (Fl.edgeT b) 1) (hot (Fl.edgeT b) 2) (hot (Fl.edgeT b) 3) (hot (Fl.edgeT b) 4) (hot (Fl.edgeT b) 5) (Gg.low1 b) (Gg.high1 b) (.slice (some ⟨w.heap.size + 1 + 1, 0, none⟩) 1 1))) (by simp [results, Try.results53, go_sem, HE.out, hot, Gg.low1, Gg.high1, HN.out]) rfl ?_
      refine ⟨_, rfl, ?_, (((Tr.refl [] w).alloc _).alloc _).alloc _⟩
      show RdV _ 1 _ 1 [.float .f64 (Fl.cq b)]
      rw [← HX.out.1]
      exact one_rd _ _ rfl (heap_at _ (by simp only [szB]))
  · rw [hnb] at hn
    simp only [Bool.not_true] at hn
    have HN := Lib.hid hnb
    have E1 : Fl.edgeT b = 1 := by rw [Fl.edge_eq hb.out, hnb]; rfl
    clear hnb E
    have HE := Lib.hid E1
    clear E1
    go_enter Try.func53, Try.ntmps53
    go_wp2_with (first
      | (go_at_call 14; (with_reducible refine (inf_p _).mono ?_); rintro e w' ⟨rfl, rfl⟩)
      | (go_at_call 14; (with_reducible refine (inf_n _).mono ?_); rintro e w' ⟨rfl, rfl⟩)
      | (go_at_call 11; refine (edge_any _ _).mono ?_; rintro e w' ⟨rfl, rfl⟩; rw [HE.out])
      | (go_at_call 29; refine (key_any _ _).mono ?_; rintro e w' ⟨rfl, rfl⟩)
      | (go_at_call 73; refine (of_any _ _).mono ?_; rintro e w' ⟨rfl, rfl⟩; rw [HX.out.2, ← HX.out.1]))
    refine bodyPost_ret (v := .agg (Gv k 1 (hot (Fl.edgeT b) 0) (hot (Fl.edgeT b) 1) (hot (Fl.edgeT b) 2) (hot (Fl.edgeT b) 3) (hot (Fl.edgeT b) 4) (hot (Fl.edgeT b) 5) (Gg.low1 b) (Gg.high1 b) (.slice (some ⟨w.heap.size + 1 + 1, 0, none⟩) 1 1))) (by simp [results, Try.results53, go_sem, HE.out, hot, Gg.low1, Gg.high1, HN.out]) rfl ?_
    refine ⟨_, rfl, ?_, (((Tr.refl [] w).alloc _).alloc _).alloc _⟩
    show RdV _ 1 _ 1 [.float .f64 (Fl.cq b)]
    rw [← HX.out.1]
    exact one_rd _ _ rfl (heap_at _ (by simp only [szB]))
end Go.Proofs.Ytncnkfjddolabaa
