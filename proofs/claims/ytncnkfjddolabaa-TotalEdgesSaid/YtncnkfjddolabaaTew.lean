/- The walk of TotalEdges, way by way. -/
import Derived.Test.YtncnkfjddolabaaRows
import Derived.WalkKit
import Derived.ProofKit
import Derived.OpenShut
import Derived.Lib.Hide
import Derived.Test.YtncnkfjddolabaaFlc
namespace Go.Proofs.Ytncnkfjddolabaa.totalEdges
open Go.ChangeShapes Go.WideShapes Go.ChangeAt Go.RowKit
set_option linter.unusedVariables false      -- a walk need not use every 'w<i>' (that an integer argument fits its kind)

/-! ### The walk: one theorem for each way of Whole; the pair of Place and Edge is given. -/
section
variable (b : Nat) (n e p ed : Int) (w : World) (h0 : 0 ≤ n) (h1 : 0 ≤ e) (hp : Fl.Pair p ed) (hb : Fl.floatT n e = b) (hed : Fl.edgeT b = ed)
  (hpl : ∀ w, Calls Try.prog 9 #[.float .f64 b] w fun r w' => r = .returned (.int .i64 p) ∧ w = w')
include h0 h1 hp hb hed hpl

theorem way_nan (t1 : (FloatKind.f64.format.order b b != some .eq) = true) :
    Calls Try.prog 3 #[.int .u64 n, .int .u8 e] w fun r w' => r = .returned (.bool true) ∧ Grown w w' := by
  have HP := Lib.hid hpl
  have HB := Lib.hid hb
  have HE := Lib.hid hed
  clear hpl hb hed
  go_enter Try.func3, Try.ntmps3
  rcases hp with ⟨rfl, rfl⟩ | ⟨rfl, rfl⟩ | ⟨rfl, rfl⟩ | ⟨rfl, rfl⟩ | ⟨rfl, rfl⟩ | ⟨rfl, rfl⟩ | ⟨rfl, rfl⟩
  all_goals
    go_wp2_with (first
      | (go_at_call 7; refine (awake9 _).mono ?_; rintro e w' ⟨rfl, rfl⟩)
      | (go_at_call 8; refine (float_any _ _ h0 h1 _).mono ?_; rintro e w' ⟨rfl, rfl⟩; rw [HB.out])
      | (go_at_call 9; refine (HP.out _).mono ?_; rintro e w' ⟨rfl, rfl⟩)
      | (go_at_call 10; refine (whole_nan _ _ t1).mono ?_; rintro e w' ⟨rfl, rfl⟩)
      | (go_at_call 11; refine (edge_any _ _).mono ?_; rintro e w' ⟨rfl, rfl⟩; rw [HE.out]))
    go_ret
    exact ⟨rfl, by repeat (first | exact Grown.refl _ | apply Grown.drew | apply Grown.alloc)⟩

theorem way_hi (t1 : (FloatKind.f64.format.order b b != some .eq) = false)
    (t2 : (FloatKind.f64.format.order b 4845873199050653696 == some .gt || FloatKind.f64.format.order b 4845873199050653696 == some .eq) = true) :
    Calls Try.prog 3 #[.int .u64 n, .int .u8 e] w fun r w' => r = .returned (.bool true) ∧ Grown w w' := by
  have HP := Lib.hid hpl
  have HB := Lib.hid hb
  have HE := Lib.hid hed
  clear hpl hb hed
  go_enter Try.func3, Try.ntmps3
  rcases hp with ⟨rfl, rfl⟩ | ⟨rfl, rfl⟩ | ⟨rfl, rfl⟩ | ⟨rfl, rfl⟩ | ⟨rfl, rfl⟩ | ⟨rfl, rfl⟩ | ⟨rfl, rfl⟩
  all_goals
    go_wp2_with (first
      | (go_at_call 7; refine (awake9 _).mono ?_; rintro e w' ⟨rfl, rfl⟩)
      | (go_at_call 8; refine (float_any _ _ h0 h1 _).mono ?_; rintro e w' ⟨rfl, rfl⟩; rw [HB.out])
      | (go_at_call 9; refine (HP.out _).mono ?_; rintro e w' ⟨rfl, rfl⟩)
      | (go_at_call 10; refine (whole_hi _ _ t1 t2).mono ?_; rintro e w' ⟨rfl, rfl⟩)
      | (go_at_call 11; refine (edge_any _ _).mono ?_; rintro e w' ⟨rfl, rfl⟩; rw [HE.out]))
    go_ret
    exact ⟨rfl, by repeat (first | exact Grown.refl _ | apply Grown.drew | apply Grown.alloc)⟩

theorem way_lo (t1 : (FloatKind.f64.format.order b b != some .eq) = false)
    (t2 : (FloatKind.f64.format.order b 4845873199050653696 == some .gt || FloatKind.f64.format.order b 4845873199050653696 == some .eq) = false)
    (t3 : (FloatKind.f64.format.order b 14069245235905429504 == some .lt || FloatKind.f64.format.order b 14069245235905429504 == some .eq) = true) :
    Calls Try.prog 3 #[.int .u64 n, .int .u8 e] w fun r w' => r = .returned (.bool true) ∧ Grown w w' := by
  have HP := Lib.hid hpl
  have HB := Lib.hid hb
  have HE := Lib.hid hed
  clear hpl hb hed
  go_enter Try.func3, Try.ntmps3
  rcases hp with ⟨rfl, rfl⟩ | ⟨rfl, rfl⟩ | ⟨rfl, rfl⟩ | ⟨rfl, rfl⟩ | ⟨rfl, rfl⟩ | ⟨rfl, rfl⟩ | ⟨rfl, rfl⟩
  all_goals
    go_wp2_with (first
      | (go_at_call 7; refine (awake9 _).mono ?_; rintro e w' ⟨rfl, rfl⟩)
      | (go_at_call 8; refine (float_any _ _ h0 h1 _).mono ?_; rintro e w' ⟨rfl, rfl⟩; rw [HB.out])
      | (go_at_call 9; refine (HP.out _).mono ?_; rintro e w' ⟨rfl, rfl⟩)
      | (go_at_call 10; refine (whole_lo _ _ t1 t2 t3).mono ?_; rintro e w' ⟨rfl, rfl⟩)
      | (go_at_call 11; refine (edge_any _ _).mono ?_; rintro e w' ⟨rfl, rfl⟩; rw [HE.out]))
    go_ret
    exact ⟨rfl, by repeat (first | exact Grown.refl _ | apply Grown.drew | apply Grown.alloc)⟩

theorem way_near (v : Int) (s : Nat) (t1 : (FloatKind.f64.format.order b b != some .eq) = false)
    (t2 : (FloatKind.f64.format.order b 4845873199050653696 == some .gt || FloatKind.f64.format.order b 4845873199050653696 == some .eq) = false)
    (t3 : (FloatKind.f64.format.order b 14069245235905429504 == some .lt || FloatKind.f64.format.order b 14069245235905429504 == some .eq) = false)
    (hw : ∀ w, Calls Try.prog 10 #[.float .f64 b] w fun r w' => r = .returned (.int .i64 v) ∧ w = w')
    (hs : ∀ w, (binOp .add 24 (.float .f64 (floatOfInt .f64 v)) (.float .f64 4607182418800017408)).run Try.prog w = .ok (.float .f64 s) w)
    (t4 : (FloatKind.f64.format.order (floatOfInt .f64 v) b == some .lt || FloatKind.f64.format.order (floatOfInt .f64 v) b == some .eq) = true)
    (t5 : (FloatKind.f64.format.order b s == some .lt) = true) :
    Calls Try.prog 3 #[.int .u64 n, .int .u8 e] w fun r w' => r = .returned (.bool true) ∧ Grown w w' := by
  have HP := Lib.hid hpl
  have HW := Lib.hid hw
  have HB := Lib.hid hb
  have HE := Lib.hid hed
  clear hpl hb hed hw
  go_enter Try.func3, Try.ntmps3
  rcases hp with ⟨rfl, rfl⟩ | ⟨rfl, rfl⟩ | ⟨rfl, rfl⟩ | ⟨rfl, rfl⟩ | ⟨rfl, rfl⟩ | ⟨rfl, rfl⟩ | ⟨rfl, rfl⟩
  all_goals
    go_wp2_with (first
      | (go_at_call 7; refine (awake9 _).mono ?_; rintro e w' ⟨rfl, rfl⟩)
      | (go_at_call 8; refine (float_any _ _ h0 h1 _).mono ?_; rintro e w' ⟨rfl, rfl⟩; rw [HB.out])
      | (go_at_call 9; refine (HP.out _).mono ?_; rintro e w' ⟨rfl, rfl⟩)
      | (go_at_call 10; refine (HW.out _).mono ?_; rintro e w' ⟨rfl, rfl⟩)
      | (go_at_call 11; refine (edge_any _ _).mono ?_; rintro e w' ⟨rfl, rfl⟩; rw [HE.out]))
    go_ret
    exact ⟨rfl, by repeat (first | exact Grown.refl _ | apply Grown.drew | apply Grown.alloc)⟩
end

end Go.Proofs.Ytncnkfjddolabaa.totalEdges
