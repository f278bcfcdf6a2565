/- Walks: functions on floats (math, total, the laws' Float) return what plain functions of the bits say, for all bits. -/
import Derived.Test.YtncnkfjddolabaaProg
import Derived.Test.YtncnkfjddolabaaFlw
import Derived.WalkKit
import Derived.WalkSpells
import Derived.WalkLawsBesides
import Derived.KernelRfl
namespace Go.Proofs.Ytncnkfjddolabaa
open Go.RowKit

namespace Fl
abbrev ord (a b : Nat) : Option Ordering := FloatKind.f64.format.order a b
def isnanT (b : Nat) : Bool := ord b b != some Ordering.eq
def keyT (b : Nat) : Int := if isnanT b then 18444492273895866369 else if bits .and .u64 (b : Int) 9223372036854775808 != 0 then bits .xor .u64 IntKind.u64.max b else bits .or .u64 (b : Int) 9223372036854775808
def infT (k : Int) : Nat := if 0 ≤ k then 9218868437227405312 else 18442240474082181120
def signT (b : Nat) : Bool := decide (wrap64 (b : Int) < 0)
def copyT (a b : Nat) : Nat := (bits .or .u64 (bits .andNot .u64 (a : Int) 9223372036854775808) (bits .and .u64 (b : Int) 9223372036854775808)).toNat
def placeT (b : Nat) : Int :=
  if isnanT b then 6 else if ord b 9218868437227405311 == some .gt then 5 else if ord b 18442240474082181119 == some .lt then 0
  else if ord b 0 == some .eq then (if signT b then 2 else 3) else if ord b 0 == some .gt then 4 else 1
def edgeT (b : Nat) : Int :=
  if isnanT b then 1 else if ord (Op.negFloat .f64 b) 9218868437227405311 == some .gt then 2 else if ord b 9218868437227405311 == some .gt then 3
  else if ord b 0 == some .eq then (if signT b then 4 else 5) else 0
end Fl

theorem run_bits (b : Nat) (w : World) : (callFunc 47 #[.float .f64 b]).run Try.prog w = .ok (.value (.int .u64 b)) w :=
  run_callFunc_extern (fn := Try.f47) (e := Extern.MathFloatBits.float64bits) Try.func47 (by kernel_rfl) rfl (by kernel_rfl) (by kernel_rfl) _ _
theorem run_frombits (n : Int) (w : World) : (callFunc 33 #[.int .u64 n]).run Try.prog w = .ok (.value (.float .f64 n.toNat)) w :=
  run_callFunc_extern (fn := Try.f33) (e := Extern.MathFloatBits.float64frombits) Try.func33 (by kernel_rfl) rfl (by kernel_rfl) (by kernel_rfl) _ _

theorem isnan_any (b : Nat) (w : World) : Calls Try.prog 48 #[.float .f64 b] w fun e w' => e = .returned (.bool (Fl.isnanT b)) ∧ w = w' := by
  go_enter Try.func48, Try.ntmps48
  go_wp2
  go_ret
  exact ⟨rfl, rfl⟩

theorem sign_any (b : Nat) (w : World) : Calls Try.prog 36 #[.float .f64 b] w fun e w' => e = .returned (.bool (Fl.signT b)) ∧ w = w' := by
  have h1 := run_bits b
  go_enter Try.func36, Try.ntmps36
  go_wp2
  go_ret
  exact ⟨rfl, rfl⟩

theorem inf_any (b : Int) (w : World) : Calls Try.prog 14 #[.int .i64 b] w fun e w' => e = .returned (.float .f64 (Fl.infT b)) ∧ w = w' := by
  have h1 := run_frombits
  go_enter Try.func14, Try.ntmps14
  go_wp2
  all_goals (go_ret; exact ⟨by simp [Fl.infT, *], rfl⟩)

theorem key_any (b : Nat) (w : World) : Calls Try.prog 29 #[.float .f64 b] w fun e w' => e = .returned (.int .u64 (Fl.keyT b)) ∧ w = w' := by
  have h1 := run_bits b
  go_enter Try.func29, Try.ntmps29
  go_wp2
  all_goals (go_ret; exact ⟨by simp [Fl.keyT, Fl.isnanT, Fl.ord, *], rfl⟩)

theorem less_any (a b : Nat) (w : World) : Calls Try.prog 30 #[.float .f64 a, .float .f64 b] w fun e w' => e = .returned (.bool (decide (Fl.keyT a < Fl.keyT b))) ∧ w = w' := by
  go_enter Try.func30, Try.ntmps30
  go_wp2_with (go_at_call 29; refine (key_any _ _).mono ?_; rintro e w' ⟨rfl, rfl⟩)
  go_ret
  exact ⟨rfl, rfl⟩

theorem copy_any (a b : Nat) (w : World) : Calls Try.prog 31 #[.float .f64 a, .float .f64 b] w fun e w' => e = .returned (.float .f64 (Fl.copyT a b)) ∧ w = w' := by
  have h1 := run_bits a
  have h2 := run_bits b
  have h3 := run_frombits
  go_enter Try.func31, Try.ntmps31
  go_wp2
  go_ret
  exact ⟨rfl, rfl⟩

theorem nan_any (w : World) : Calls Try.prog 32 #[] w fun e w' => e = .returned (.float .f64 9221120237041090561) ∧ w = w' := by
  have h3 := run_frombits
  go_enter Try.func32, Try.ntmps32
  go_wp2
  go_ret
  exact ⟨rfl, rfl⟩

theorem run_neg (b : Nat) (w : World) : (Op.unary .neg (.float .f64 b)).run Try.prog w = .ok (.float .f64 (Op.negFloat .f64 b)) w := rfl

theorem edge_any (b : Nat) (w : World) : Calls Try.prog 11 #[.float .f64 b] w fun e w' => e = .returned (.int .u8 (Fl.edgeT b)) ∧ w = w' := by
  have hn := run_neg b
  go_enter Try.func11, Try.ntmps11
  cases hz : (FloatKind.f64.format.order b 0 == some Ordering.eq)
  all_goals
    go_wp2_with (first | (go_at_call 36; refine (sign_any _ _).mono ?_; rintro e w' ⟨rfl, rfl⟩) | go_in)
    all_goals (go_ret; exact ⟨by simp [Fl.edgeT, Fl.isnanT, Fl.ord, *], rfl⟩)

/-- ref09.Place: of the noughts. -/
theorem place_0 (w : World) : Calls Try.prog 9 #[.float .f64 0] w fun e w' => e = .returned (.int .i64 3) ∧ w = w' := by
  have h1 : (FloatKind.f64.format.order 0 0 != some Ordering.eq) = false := by kernel_rfl
  have h2 : (FloatKind.f64.format.order 0 0 == some Ordering.eq) = true := by kernel_rfl
  have h3 : (FloatKind.f64.format.order 0 9218868437227405311 == some Ordering.gt) = false := by kernel_rfl
  have h4 : (FloatKind.f64.format.order 0 18442240474082181119 == some Ordering.lt) = false := by kernel_rfl
  have h5 : ∀ w, (binOp .quo 24 (.float .f64 4607182418800017408) (.float .f64 0)).run Try.prog w = .ok (.float .f64 9218868437227405312) w := fun w => by kernel_rfl
  have h6 : (FloatKind.f64.format.order 9218868437227405312 0 == some Ordering.lt) = false := by kernel_rfl
  go_enter Try.func9, Try.ntmps9
  go_wp2
  go_ret
  exact ⟨rfl, rfl⟩
theorem place_1 (w : World) : Calls Try.prog 9 #[.float .f64 9223372036854775808] w fun e w' => e = .returned (.int .i64 2) ∧ w = w' := by
  have h1 : (FloatKind.f64.format.order 9223372036854775808 9223372036854775808 != some Ordering.eq) = false := by kernel_rfl
  have h2 : (FloatKind.f64.format.order 9223372036854775808 0 == some Ordering.eq) = true := by kernel_rfl
  have h3 : (FloatKind.f64.format.order 9223372036854775808 9218868437227405311 == some Ordering.gt) = false := by kernel_rfl
  have h4 : (FloatKind.f64.format.order 9223372036854775808 18442240474082181119 == some Ordering.lt) = false := by kernel_rfl
  have h5 : ∀ w, (binOp .quo 24 (.float .f64 4607182418800017408) (.float .f64 9223372036854775808)).run Try.prog w = .ok (.float .f64 18442240474082181120) w := fun w => by kernel_rfl
  have h6 : (FloatKind.f64.format.order 18442240474082181120 0 == some Ordering.lt) = true := by kernel_rfl
  go_enter Try.func9, Try.ntmps9
  go_wp2
  go_ret
  exact ⟨rfl, rfl⟩
/-- ref09.Place: of all others. -/
def Fl.placeU (b : Nat) : Int :=
  if isnanT b then 6 else if ord b 9218868437227405311 == some .gt then 5 else if ord b 18442240474082181119 == some .lt then 0 else if ord b 0 == some .gt then 4 else 1
theorem place_any (b : Nat) (w : World) (hz : (FloatKind.f64.format.order b 0 == some Ordering.eq) = false) : Calls Try.prog 9 #[.float .f64 b] w fun e w' => e = .returned (.int .i64 (Fl.placeU b)) ∧ w = w' := by
  go_enter Try.func9, Try.ntmps9
  go_wp2
  all_goals (go_ret; exact ⟨by simp [Fl.placeU, Fl.isnanT, Fl.ord, *], rfl⟩)

/-- math.Floor, of a float whose floor is known. -/
theorem floor_any (b r : Nat) (w : World) (h : ∀ w, (Extern.MathFloor.toIntegral "math.archFloor" .down #[.float .f64 b]).run Try.prog w = .ok (.float .f64 r) w) :
    Calls Try.prog 34 #[.float .f64 b] w fun e w' => e = .returned (.float .f64 r) ∧ w = w' := by
  have hf : ∀ w, (callFunc 49 #[.float .f64 b]).run Try.prog w = .ok (.value (.float .f64 r)) w := fun w => by
    rw [run_callFunc_extern (fn := Try.f49) (e := Extern.MathFloor.toIntegral "math.archFloor" .down) Try.func49 (by kernel_rfl) rfl (by kernel_rfl) (by kernel_rfl) _ _, h]
    rfl
  clear h
  go_enter Try.func34, Try.ntmps34
  go_wp2
  go_ret
  exact ⟨rfl, rfl⟩
end Go.Proofs.Ytncnkfjddolabaa
