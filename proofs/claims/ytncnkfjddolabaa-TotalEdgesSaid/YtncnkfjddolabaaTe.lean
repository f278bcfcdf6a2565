/- For every input herbariumlaw09.TotalEdges returns true and leaves its arguments as they were. No condition. (The frame of the last part was written by the seat's proof-skeleton.) -/
import Derived.Test.YtncnkfjddolabaaRows
import Derived.WalkKit
import Derived.ProofKit
import Derived.OpenShut
import Derived.Lib.Hide
import Derived.Test.YtncnkfjddolabaaTew
namespace Go.Proofs.Ytncnkfjddolabaa.totalEdges
open Go.ChangeShapes Go.WideShapes Go.ChangeAt Go.RowKit
set_option linter.unusedVariables false      -- a walk need not use every 'w<i>' (that an integer argument fits its kind)

theorem own : ownKnob Try.prog.godebug = none := by kernel_rfl

def floorOf (b : Nat) (d : Ieee.Datum) : Sem Value :=
  match d with
  | .nan s t =>
    if FloatKind.f64.format.quiet t = t then pure (.float .f64 b) else do
    let kept ← choose (.extern "math.Floor,Ceil,Trunc,RoundToEven.signallingNaN kept" 2)
    pure (.float .f64 (if kept == 1 then b else FloatKind.f64.encode (.nan s (FloatKind.f64.format.quiet t))))
  | d => pure (.float .f64 (FloatKind.f64.encode (d.integral .down)))
theorem floor_of (b : Nat) : Extern.MathFloor.toIntegral "math.archFloor" .down #[.float .f64 b] = floorOf b (FloatKind.f64.decode b) := rfl
theorem floor_run {b r : Nat} (h : Ieee.double.write ((Ieee.double.read b).integral .down) = r) (hr : ∃ s m p, Ieee.double.read b = .number s m p) (w : World) :
    (Extern.MathFloor.toIntegral "math.archFloor" .down #[.float .f64 b]).run Try.prog w = .ok (.float .f64 r) w := by
  obtain ⟨s, m, p, hr⟩ := hr
  rw [hr] at h
  rw [floor_of, show FloatKind.f64.decode b = .number s m p from hr, ← h]
  rfl

theorem float_lt (n e : Int) (h2 : n < 18446744073709551616) : Fl.floatT n e < 18446744073709551616 := by
  unfold Fl.floatT
  split
  · decide
  · split
    · unfold Fl.infT; split <;> decide
    · split
      · unfold Fl.halfT; split <;> decide +kernel
      · split
        · have h := Ieee.Format.write_lt Ieee.double (.number (decide (n % 2001 - 1000 < 0)) (n % 2001 - 1000).natAbs 0)
          exact Nat.lt_of_lt_of_eq h (by decide)
        · omega

theorem walk (a0 : Int) (a1 : Int) (w0 : (Lit.int .u64 a0).wf = true) (w1 : (Lit.int .u8 a1).wf = true) (w : World) :
    Calls Try.prog 3 #[.int .u64 a0, .int .u8 a1] w fun e w' => e = .returned (.bool true) ∧ Grown w w' := by
  have b0 := bounds_u64 w0
  have b1 := bounds_u8 w1
  have hb := float_lt a0 a1 (by omega)
  obtain ⟨b, hbe⟩ : ∃ b, Fl.floatT a0 a1 = b := ⟨_, rfl⟩
  rw [hbe] at hb
  obtain ⟨p, hp, hpl⟩ : ∃ p, Fl.Pair p (Fl.edgeT b) ∧ ∀ w, Calls Try.prog 9 #[.float .f64 b] w fun r w' => r = .returned (.int .i64 p) ∧ w = w' := by
    cases hz : (FloatKind.f64.format.order b 0 == some Ordering.eq)
    · exact ⟨_, Fl.pair_any hb hz, fun w => place_any b w hz⟩
    · rcases Fl.zeros hb hz with rfl | rfl
      · exact ⟨3, Fl.pair_0, place_0⟩
      · exact ⟨2, Fl.pair_1, place_1⟩
  have e1 := Fl.t_ne hb
  have e2 : (FloatKind.f64.format.order b 4845873199050653696 == some .gt || FloatKind.f64.format.order b 4845873199050653696 == some .eq) = (!Fl.nan b && decide (4845873199050653696 ≤ Fl.sv b)) := by
    rw [Fl.t_gt hb (by decide) Fl.c_far.2, Fl.t_eq hb (by decide) Fl.c_far.2, Fl.c_far.1, ← Bool.and_or_distrib_left]
    congr 1
    rw [Bool.eq_iff_iff]; simp only [Bool.or_eq_true, decide_eq_true_eq]; omega
  have e3 : (FloatKind.f64.format.order b 14069245235905429504 == some .lt || FloatKind.f64.format.order b 14069245235905429504 == some .eq) = (!Fl.nan b && decide (Fl.sv b ≤ -4845873199050653696)) := by
    rw [Fl.t_lt hb (by decide) Fl.c_near.2, Fl.t_eq hb (by decide) Fl.c_near.2, Fl.c_near.1, ← Bool.and_or_distrib_left]
    congr 1
    rw [Bool.eq_iff_iff]; simp only [Bool.or_eq_true, decide_eq_true_eq]; omega
  cases hn : Fl.nan b
  · rw [hn] at e1 e2 e3
    simp only [Bool.not_false, Bool.true_and] at e2 e3
    by_cases c2 : 4845873199050653696 ≤ Fl.sv b
    · exact way_hi b a0 a1 p _ w (by omega) (by omega) hp hbe rfl hpl e1 (by rw [e2]; exact decide_eq_true c2)
    · by_cases c3 : Fl.sv b ≤ -4845873199050653696
      · exact way_lo b a0 a1 p _ w (by omega) (by omega) hp hbe rfl hpl e1 (by rw [e2]; exact decide_eq_false c2) (by rw [e3]; exact decide_eq_true c3)
      · have t2 := e2.trans (decide_eq_false c2)
        have t3 := e3.trans (decide_eq_false c3)
        obtain ⟨r, s, v, hv, hr, hrd, hi, hs, t4, t5⟩ := Fl.near hb hn (by omega) (by omega)
        obtain ⟨m, q, hrd⟩ := hrd
        refine way_near b a0 a1 p _ w (by omega) (by omega) hp hbe rfl hpl v s e1 t2 t3 (fun w => whole_near b r v w e1 t2 t3 (floor_run hr ⟨_, m, q, hrd⟩) ?_) (fun w => run_float_arith w .add _ .f64 _ _ _ hs) t4 t5
        intro w
        refine run_convert_float_int w _ _ .f64 .i64 r v (by kernel_rfl) (by kernel_rfl) ?_
        unfold floatToIntVal
        have : (FloatKind.f64.decode r).toInt .zero = some v := hi
        rw [this]
        have m1 : IntKind.i64.min = -9223372036854775808 := by decide
        have m2 : IntKind.i64.max = 9223372036854775807 := by decide
        exact if_pos (by rw [m1, m2]; omega)
  · rw [hn] at e1
    exact way_nan b a0 a1 p _ w (by omega) (by omega) hp hbe rfl hpl e1

/-! ### THE ROW's STEP: WRITTEN OUT: LEAVE IT -/
set_option maxRecDepth 100000 in
theorem lifted (os : Os) (started : os.Started) (H : Type) (enc : TypeId × Value → H) :
    ReturnsInHanded {} Try.checked os 3 .any (Rows.totalEdgesSpec.pre6 enc Try.prog Try.f3 Rows.totalEdgesRow.domain false) (Rows.totalEdgesSpec.post enc Try.prog Try.f3 false true false false) := by
  refine returnsInHanded_of_change (C := Try.checked) own started (by kernel_rfl) Try.func3
    (ChangeSpec.witness6 (enc := enc) (C := Try.checked) false ⟨#[], #[.int .u64 0, .int .u8 0], []⟩ 8 (by kernel_rfl) (by kernel_rfl) (by kernel_rfl) (by kernel_rfl)) ?_
  intro W base args ds gs before hval0 hW hcnd _
  have hval : ∀ (j : Nat) t v, Try.f3.params[j]? = some t → args[j]? = some v → Value.okWide Try.prog W .any base t v := hval0
  have hW' := hW
  obtain ⟨p, q, hA0, hV, rfl, hfz, hnd⟩ := hW
  have hA : DataW.TrodAll enc Try.prog W 0 (fun _ => true) true Try.f3.params.toList args.toList ds p := hA0
  rw [Try.params3] at hA hval
  obtain ⟨v0, vs0, d0, ds0, p0, q0, hargs, rfl, rfl, h0, r0⟩ := trodAll_cons hA
  obtain ⟨v1, vs1, d1, ds1, p1, q1, rfl, rfl, rfl, h1, r1⟩ := trodAll_cons r0
  obtain ⟨rfl, rfl, rfl⟩ := trodAll_nil r1
  obtain rfl : args = #[v0, v1] := by cases args; simp_all
  obtain ⟨rfl, rfl⟩ := trodVars_none hV
  obtain ⟨a0, rfl, rfl, rfl, w0⟩ := open_int Try.underlying22 (hval 0 22 v0 rfl rfl) h0
  obtain ⟨a1, rfl, rfl, rfl, w1⟩ := open_int Try.underlying5 (hval 1 5 v1 rfl rfl) h1
  clear hA0 hval0
  simp only [List.append_nil] at hW'
  refine (walk a0 a1 w0 w1 W).mono fun e W' ⟨he, hg⟩ => ?_
  subst he
  exact ⟨_, rfl, post_of_same (pa := []) (pv := []) hW' (fun _ _ _ => (trodAll_cons_mk (shut_bool Try.underlying4 _) trodAll_mk0)) (fun sp _ => (trodAll_cons_mk (shut_int Try.underlying22 w0) (trodAll_cons_mk (shut_int Try.underlying5 w1) trodAll_mk0))) (fun _ _ => rfl) rfl
    (hg.frame _) hg.2.1 (ok_one (by kernel_rfl) rfl (okWide_bool_mk Try.underlying4 _))⟩

theorem over : Rows.totalEdgesRow.holds Try.pinned (OpenSpec.ofChange Rows.totalEdgesSpec) :=
  OpenClaim.holds_of_wide 3 Try.f3 rfl rfl rfl rfl rfl rfl rfl ⟨rfl, rfl, rfl, rfl, rfl⟩ rfl rfl rfl rfl rfl (by kernel_rfl) Try.func3 (by kernel_rfl)
    (of_decide_eq_true (by kernel_rfl)) (by unfold Func.isWrapper; first | (rw [if_pos (by decide +kernel)]; kernel_rfl) | (rw [if_neg (by decide +kernel)]; exact ⟨rfl, rfl⟩))
    (fun os started H enc _ => lifted os started H enc)

/-- ████ THE STATEMENT ████ -/
theorem proved : Rows.TotalEdgesSaid :=
  over
#print axioms proved
end Go.Proofs.Ytncnkfjddolabaa.totalEdges
