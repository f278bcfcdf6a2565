/- Walks: the laws' Float, total.Whole, the fixed fact of layer 9. -/
import Derived.Test.YtncnkfjddolabaaFw
import Derived.Lib.Hide
namespace Go.Proofs.Ytncnkfjddolabaa
open Go.RowKit

def Fl.halfT (n : Int) : Nat := if n % 2 = 0 then 13826050856027422720 else 4602678819172646912
def Fl.floatT (n e : Int) : Nat :=
  if e % 8 = 0 then 9221120237041090561 else if e % 8 = 1 then infT (n % 2 * 2 - 1)
  else if e % 8 = 2 then copyT 0 (halfT n)
  else if e % 8 = 3 ∨ e % 8 = 4 then floatOfInt .f64 (n % 2001 - 1000) else n.toNat

theorem run_half (n : Int) (w : World) : (binOp .sub 24 (.float .f64 (floatOfInt .f64 (n % 2))) (.float .f64 4602678819172646912)).run Try.prog w = .ok (.float .f64 (Fl.halfT n)) w := by
  unfold Fl.halfT
  rcases (show n % 2 = 0 ∨ n % 2 = 1 by omega) with h | h
  · rw [h]; kernel_rfl
  · rw [h]; kernel_rfl

theorem float_any (n e : Int) (h0 : 0 ≤ n) (h1 : 0 ≤ e) (w : World) :
    Calls Try.prog 8 #[.int .u64 n, .int .u8 e] w fun r w' => r = .returned (.float .f64 (Fl.floatT n e)) ∧ w = w' := by
  have hn0 : 0 ≤ n % 2 := by omega
  have hn1 : n % 2 ≤ 1 := by omega
  have hm0 : 0 ≤ n % 2001 := by omega
  have hm1 : n % 2001 ≤ 2000 := by omega
  have h3 := run_frombits n
  have h4 := run_half n
  have e0 : 0 ≤ e % 8 := by omega
  have e1 : e % 8 < 8 := by omega
  go_enter Try.func8, Try.ntmps8
  go_wp2_with (first
    | (go_at_call 32; refine (nan_any _).mono ?_; rintro e w' ⟨rfl, rfl⟩)
    | (go_at_call 14; refine (inf_any _ _).mono ?_; rintro e w' ⟨rfl, rfl⟩)
    | (go_at_call 31; refine (copy_any _ _ _).mono ?_; rintro e w' ⟨rfl, rfl⟩))
  all_goals go_ret
  all_goals exact ⟨by simp_all [Fl.floatT], rfl⟩

theorem whole_nan (b : Nat) (w : World) (h1 : (FloatKind.f64.format.order b b != some .eq) = true) :
    Calls Try.prog 10 #[.float .f64 b] w fun r w' => r = .returned (.int .i64 0) ∧ w = w' := by
  go_enter Try.func10, Try.ntmps10
  go_wp2
  go_ret
  exact ⟨rfl, rfl⟩
theorem whole_hi (b : Nat) (w : World) (h1 : (FloatKind.f64.format.order b b != some .eq) = false) (h2 : (FloatKind.f64.format.order b 4845873199050653696 == some .gt || FloatKind.f64.format.order b 4845873199050653696 == some .eq) = true) :
    Calls Try.prog 10 #[.float .f64 b] w fun r w' => r = .returned (.int .i64 9007199254740992) ∧ w = w' := by
  go_enter Try.func10, Try.ntmps10
  go_wp2
  go_ret
  exact ⟨rfl, rfl⟩
theorem whole_lo (b : Nat) (w : World) (h1 : (FloatKind.f64.format.order b b != some .eq) = false)
    (h2 : (FloatKind.f64.format.order b 4845873199050653696 == some .gt || FloatKind.f64.format.order b 4845873199050653696 == some .eq) = false)
    (h3 : (FloatKind.f64.format.order b 14069245235905429504 == some .lt || FloatKind.f64.format.order b 14069245235905429504 == some .eq) = true) :
    Calls Try.prog 10 #[.float .f64 b] w fun r w' => r = .returned (.int .i64 (-9007199254740992)) ∧ w = w' := by
  go_enter Try.func10, Try.ntmps10
  go_wp2
  go_ret
  exact ⟨rfl, rfl⟩
theorem whole_near (b r : Nat) (v : Int) (w : World) (h1 : (FloatKind.f64.format.order b b != some .eq) = false)
    (h2 : (FloatKind.f64.format.order b 4845873199050653696 == some .gt || FloatKind.f64.format.order b 4845873199050653696 == some .eq) = false)
    (h3 : (FloatKind.f64.format.order b 14069245235905429504 == some .lt || FloatKind.f64.format.order b 14069245235905429504 == some .eq) = false)
    (hf : ∀ w, (Extern.MathFloor.toIntegral "math.archFloor" .down #[.float .f64 b]).run Try.prog w = .ok (.float .f64 r) w)
    (hv : ∀ w, (convert 24 2 (.float .f64 r)).run Try.prog w = .ok (.int .i64 v) w) :
    Calls Try.prog 10 #[.float .f64 b] w fun r w' => r = .returned (.int .i64 v) ∧ w = w' := by
  have HF := Lib.hid hf
  clear hf
  go_enter Try.func10, Try.ntmps10
  go_wp2_with (go_at_call 34; refine (floor_any _ _ _ HF.out).mono ?_; rintro e w' ⟨rfl, rfl⟩)
  go_ret
  exact ⟨rfl, rfl⟩

/-- The fixed fact of layer 9. -/
theorem awake9 (w : World) : Calls Try.prog 7 #[] w fun r w' => r = .returned (.bool true) ∧ w = w' := by
  have k0 : Fl.keyT 0 = 9223372036854775808 := by kernel_rfl
  have c0 : Fl.copyT 0 13830554455654793216 = 9223372036854775808 := by kernel_rfl
  have k1 : (decide (Fl.keyT 9223372036854775808 < Fl.keyT 0)) = true := by kernel_rfl
  have K := And.intro k0 (And.intro c0 k1)
  have HK := Lib.hid K
  clear k0 c0 k1 K
  go_enter Try.func7, Try.ntmps7
  go_wp2_with (first
    | (go_at_call 29; refine (key_any _ _).mono ?_; rintro e w' ⟨rfl, rfl⟩; rw [HK.out.1])
    | (go_at_call 31; refine (copy_any _ _ _).mono ?_; rintro e w' ⟨rfl, rfl⟩; rw [HK.out.2.1])
    | (go_at_call 30; refine (less_any _ _ _).mono ?_; rintro e w' ⟨rfl, rfl⟩; rw [HK.out.2.2]))
  go_ret
  exact ⟨rfl, rfl⟩
end Go.Proofs.Ytncnkfjddolabaa
