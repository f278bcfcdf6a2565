/- For every input herbariumlaw16.GaugeAdds returns true and leaves its arguments as they were. No condition. -/
import Derived.Test.YtncnkfjddolabaaRows
import Derived.Test.YtncnkfjddolabaaOi
import Derived.Test.YtncnkfjddolabaaGx
namespace Go.Proofs.Ytncnkfjddolabaa.gaugeAdds
open Go.ChangeShapes Go.WideShapes Go.ChangeAt Go.RowKit
set_option linter.unusedVariables false

theorem own : ownKnob Try.prog.godebug = none := by kernel_rfl

/-! ### THE ROW's STEP -/
set_option maxRecDepth 100000 in
theorem lifted (os : Os) (started : os.Started) (H : Type) (enc : TypeId × Value → H) :
    ReturnsInHanded {} Try.checked os 4 .any (Rows.gaugeAddsSpec.pre6 enc Try.prog Try.f4 Rows.gaugeAddsRow.domain false) (Rows.gaugeAddsSpec.post enc Try.prog Try.f4 false true false false) := by
  refine returnsInHanded_of_change (C := Try.checked) own started (by kernel_rfl) Try.func4
    (ChangeSpec.witness6 (enc := enc) (C := Try.checked) false ⟨#[], #[.int .u8 0, .slice none 0 0], []⟩ 8 (by kernel_rfl) (by kernel_rfl) (by kernel_rfl) (by kernel_rfl)) ?_
  intro W base args ds gs before hval0 hW hcnd _
  have hval : ∀ (j : Nat) t v, Try.f4.params[j]? = some t → args[j]? = some v → Value.okWide Try.prog W .any base t v := hval0
  have hW' := hW
  obtain ⟨p, q, hA0, hV, rfl, hfz, hnd⟩ := hW
  have hA : DataW.TrodAll enc Try.prog W 0 (fun _ => true) true Try.f4.params.toList args.toList ds p := hA0
  rw [Try.params4] at hA hval
  obtain ⟨v0, vs0, d0, ds0, p0, q0, hargs, rfl, rfl, h0, r0⟩ := trodAll_cons hA
  obtain ⟨v1, vs1, d1, ds1, p1, q1, rfl, rfl, rfl, h1, r1⟩ := trodAll_cons r0
  obtain ⟨rfl, rfl, rfl⟩ := trodAll_nil r1
  obtain rfl : args = #[v0, v1] := by cases args; simp_all
  obtain ⟨rfl, rfl⟩ := trodVars_none hV
  obtain ⟨a0, rfl, rfl, rfl, w0⟩ := open_int Try.underlying5 (hval 0 5 v0 rfl rfl) h0
  obtain ⟨a1, len, cap, rfl⟩ := okWide_slice Try.underlying32 (hval 1 32 v1 rfl rfl)
  obtain ⟨fuel, hf⟩ := h1
  obtain ⟨v, l, hcs, hr, hok⟩ := open_items hf
  have hv : v = .slice a1 len cap := by
    simp [Value.cells] at hcs
    exact hcs.symm
  rw [hv] at hr
  have b0 := bounds_u8 w0
  refine (gauge_adds W a0 _ l hr (Lib.hid hok) (by omega) (by omega)).mono fun e W' ⟨he, ht⟩ => ?_
  subst he
  exact ⟨_, rfl, post_law (tb := 4) (TS := [5, 32, 41, 22]) (by unfold Roomy; kernel_rfl) (by rw [Try.params4]; decide) rfl hW' ht rfl Try.underlying4 rfl⟩

theorem over : Rows.gaugeAddsRow.holds Try.pinned (OpenSpec.ofChange Rows.gaugeAddsSpec) :=
  OpenClaim.holds_of_wide 4 Try.f4 rfl rfl rfl rfl rfl rfl rfl ⟨rfl, rfl, rfl, rfl, rfl⟩ rfl rfl rfl rfl rfl (by kernel_rfl) Try.func4 (by kernel_rfl)
    (of_decide_eq_true (by kernel_rfl)) (by unfold Func.isWrapper; first | (rw [if_pos (by decide +kernel)]; kernel_rfl) | (rw [if_neg (by decide +kernel)]; exact ⟨rfl, rfl⟩))
    (fun os started H enc _ => lifted os started H enc)

/-- ████ THE STATEMENT ████ -/
theorem proved : Rows.GaugeAddsSaid :=
  over
#print axioms proved
end Go.Proofs.Ytncnkfjddolabaa.gaugeAdds
