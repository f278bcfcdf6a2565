/- For every input herbariumlaw12.KmvAdds returns true and leaves its arguments as they were. No condition. (The frame follows the skeleton of TotalEdges and the worked row of a slice that is only read.) -/
import Derived.Test.YtncnkfjddolabaaRows
import Derived.WalkKit
import Derived.ProofKit
import Derived.OpenShut
import Derived.ChangeSlices
import Derived.ChangeSame
import Derived.Lib.Hide
import Derived.Test.YtncnkfjddolabaaKw
namespace Go.Proofs.Ytncnkfjddolabaa.kmvAdds
open Go.ChangeShapes Go.WideShapes Go.ChangeAt Go.RowKit
set_option linter.unusedVariables false

theorem own : ownKnob Try.prog.godebug = none := by kernel_rfl
theorem cells22 : Try.prog.cellsOf 22 = 1 := by kernel_rfl

theorem iv_one {k : IntKind} {xs : List Int} {u : Value} (h : u ∈ iv k xs) : u.oneCell' = true := by
  simp only [iv, List.mem_map] at h
  obtain ⟨x, _, rfl⟩ := h
  rfl

theorem kept {W W' : World} (h : Tr [] W W') (may : MemPlace → Prop) : W.keptBut W' may := by
  refine ⟨h.os, h.output, fun i hi => ?_⟩
  rw [h.block i hi (by simp)]
  split <;> simp_all

section
variable {H : Type} {enc : TypeId × Value → H} {P : Program}
/-- The post where nothing that lay has turned. -/
theorem post_of_tr {f : Func} {s : ChangeSpec} {apart fresh handsOn again : Bool} {W W' : World} {args : Array Value} {v : Value} {ds gs : List (DataW H)} {before pa pv : List MemPlace}
    (hW : DataW.Whole enc P f.params.toList s.vars apart W args.toList ds gs before) (ht : Tr [] W W')
    (hres : ∀ (b : Nat) (sp : Nat → Bool) (hd : Bool), DataW.TrodAll enc P W' b sp hd f.resultTypes.toList (v.resultList f.resultTypes.size) (s.fn H (ds ++ gs)).results [])
    (hargs : ∀ sp : Nat → Bool, (∀ p ∈ before, sp p.block = true) → DataW.TrodAll enc P W' 0 sp true f.params.toList args.toList (s.fn H (ds ++ gs)).args pa)
    (hvars : ∀ sp : Nat → Bool, (∀ p ∈ before, sp p.block = true) → DataW.TrodVars enc P W' sp s.vars (s.fn H (ds ++ gs)).vars pv)
    (hps : before = pa ++ pv)
    (hok : ∀ (j : Nat) (t : TypeId) (r : Value), f.resultTypes[j]? = some t → (v.resultList f.resultTypes.size)[j]? = some r → Value.okWide P W' .any 0 t r) :
    s.post enc P f apart fresh handsOn again W args v W' := by
  have hlt := hW.lt
  have hold : ∀ p ∈ before, (fun b => decide (b < W.heap.size)) p.block = true := fun p hp => by simpa using hlt p hp
  have hmem : ∀ p, p ∈ before ↔ p ∈ pa ∨ p ∈ pv := fun p => by rw [hps, List.mem_append]
  refine ⟨ds, gs, before, [], pa, pv, hW, hres _ _ _, hargs _ hold, hvars _ hold, kept ht _, fun _ => ?_⟩
  obtain ⟨_, _, _, _, _, hz, hn⟩ := hW
  refine ⟨hok, _, _, ([] ++ pa) ++ pv, ⟨[] ++ pa, pv, trodAll_append (hargs _ (fun _ _ => rfl)) (hres _ _ _), hvars _ (fun _ _ => rfl), rfl, fun b off hp => ?_, fun ha => ?_⟩, fun p hp _ => ?_⟩
  · have hb : MemPlace.cell b off ∈ before := (hmem _).2 (by simpa using hp)
    exact (ht.frozen (p := ⟨b, off, none⟩) (hlt _ hb) (by simp)).trans (hz b off hb)
  · have := hn ha
    rw [hps] at this
    simpa using this
  · exact (hmem p).2 (by simpa using hp)
end

/-! ### THE ROW's STEP -/
set_option maxRecDepth 100000 in
theorem lifted (os : Os) (started : os.Started) (H : Type) (enc : TypeId × Value → H) :
    ReturnsInHanded {} Try.checked os 6 .any (Rows.kmvAddsSpec.pre6 enc Try.prog Try.f6 Rows.kmvAddsRow.domain false) (Rows.kmvAddsSpec.post enc Try.prog Try.f6 false true false false) := by
  refine returnsInHanded_of_change (C := Try.checked) own started (by kernel_rfl) Try.func6
    (ChangeSpec.witness6 (enc := enc) (C := Try.checked) false ⟨#[], #[.int .u8 0, .slice none 0 0, .bool false], []⟩ 8 (by kernel_rfl) (by kernel_rfl) (by kernel_rfl) (by kernel_rfl)) ?_
  intro W base args ds gs before hval0 hW hcnd _
  have hval : ∀ (j : Nat) t v, Try.f6.params[j]? = some t → args[j]? = some v → Value.okWide Try.prog W .any base t v := hval0
  have hW' := hW
  obtain ⟨p, q, hA0, hV, rfl, hfz, hnd⟩ := hW
  have hA : DataW.TrodAll enc Try.prog W 0 (fun _ => true) true Try.f6.params.toList args.toList ds p := hA0
  rw [Try.params6] at hA hval
  obtain ⟨v0, vs0, d0, ds0, p0, q0, hargs, rfl, rfl, h0, r0⟩ := trodAll_cons hA
  obtain ⟨v1, vs1, d1, ds1, p1, q1, rfl, rfl, rfl, h1, r1⟩ := trodAll_cons r0
  obtain ⟨v2, vs2, d2, ds2, p2, q2, rfl, rfl, rfl, h2, r2⟩ := trodAll_cons r1
  obtain ⟨rfl, rfl, rfl⟩ := trodAll_nil r2
  obtain rfl : args = #[v0, v1, v2] := by cases args; simp_all
  obtain ⟨rfl, rfl⟩ := trodVars_none hV
  obtain ⟨a0, rfl, rfl, rfl, w0⟩ := open_int Try.underlying5 (hval 0 5 v0 rfl rfl) h0
  obtain ⟨a2, rfl, rfl, rfl⟩ := open_bool Try.underlying4 (hval 2 4 v2 rfl rfl) h2
  obtain ⟨a1, len, cap, rfl⟩ := okWide_slice Try.underlying53 (hval 1 53 v1 rfl rfl)
  obtain ⟨fuel, hf⟩ := h1
  have b0 := bounds_u8 w0
  clear hA0 hval0
  simp only [List.append_nil, List.nil_append] at hW'
  rcases open_ints Try.underlying53 Try.underlying22 cells22 hf with ⟨hcs, hx⟩ | ⟨a, len', cap', zs, hcs, _, hl, hm, hz, hx, hcell, hwz⟩
  · simp [Value.cells] at hcs
    obtain ⟨rfl, rfl, rfl⟩ := hcs
    simp only [Prod.mk.injEq] at hx
    obtain ⟨rfl, rfl⟩ := hx
    refine (kmv_adds W a0 a2 (.slice none 0 0) [] (RdV.nil W 1) (by omega) (by omega) (by simp)).mono fun e W' ⟨he, ht⟩ => ?_
    subst he
    exact ⟨_, rfl, post_of_tr (pa := []) (pv := []) hW' ht (fun _ _ _ => (trodAll_cons_mk (shut_bool Try.underlying4 _) trodAll_mk0)) (fun sp _ => (trodAll_cons_mk (shut_int Try.underlying5 w0) (trodAll_cons_mk (shut_slice_nil Try.underlying53) (trodAll_cons_mk (shut_bool Try.underlying4 _) trodAll_mk0)))) (fun _ _ => rfl) rfl
      (ok_one (by kernel_rfl) rfl (okWide_bool_mk Try.underlying4 _))⟩
  · simp [Value.cells] at hcs
    obtain ⟨rfl, rfl, rfl⟩ := hcs
    simp only [Prod.mk.injEq] at hx
    obtain ⟨rfl, rfl⟩ := hx
    simp only [if_true] at hz
    have hlz : (zs.take len).length = len := by simp; omega
    have hr : RdV W 1 (.slice (some a) len cap) (zs.take len).length (iv .u64 (zs.take len)) := by
      rw [hlz]
      refine ⟨by rw [iv_len]; omega, fun u hu => iv_one hu, .inr ⟨a, cap, rfl, hl, hm, fun hp => ?_⟩⟩
      obtain ⟨b, off, spot⟩ := a
      have hspot : spot = none := by simpa [Addr.add] using World.cell?_spot (hcell 0 (by omega))
      subst hspot
      have hb := lt_of_cell (hcell 0 (by omega))
      refine ⟨b, off, rfl, hb, fun j u hu => ?_⟩
      have hj : j < len := by
        have := (List.getElem?_eq_some_iff.1 hu).1
        rw [iv_len, hlz] at this
        exact this
      have hc := hcell j (by omega)
      rw [iv_get (by omega)] at hu
      rw [← Option.some.inj hu]
      have e : (zs.take len).getD j 0 = zs.getD j 0 := by simp [hj]
      rw [e, ← add_plain]
      exact hc
    refine (kmv_adds W a0 a2 _ (zs.take len) hr (by omega) (by omega) (fun x hx => ?_)).mono fun e W' ⟨he, ht⟩ => ?_
    · have := bounds_u64 (hwz x (List.mem_of_mem_take hx))
      omega
    subst he
    have hcell' : ∀ i, i < zs.length → W'.cell? (a.add i) = some (.int .u64 (zs.getD i 0)) := fun i hi => by
      have h := hcell i hi
      have hb : (a.add i).block < W.heap.size := by
        unfold World.cell? at h
        cases e : W.heap[(a.add i).block]? with
        | none => simp [e] at h
        | some x => exact lt_of_heap e
      exact (ht.cell hb (by simp)).trans h
    have again : ∀ sp : Nat → Bool, (∀ p ∈ MemPlace.row a zs.length, sp p.block = true) → DataW.trod enc Try.prog W' 0 sp true 2 53 [.slice (some a) len cap] = some (.slice (lits .u64 (zs.take len)) (lits .u64 (zs.drop len)), MemPlace.row a zs.length) := by
      intro sp hsp
      by_cases hz0 : zs.length = 0
      · have hc0 : cap = 0 := by omega
        have hl0 : len = 0 := by omega
        subst hc0; subst hl0
        exact shut_ints (enc := enc) (w := W') (base := 0) (spare := sp) (held := true) (a := a) (len := 0) (cap := 0) (zs := zs) 0 Try.underlying53 Try.underlying22 cells22 (Nat.zero_le _) (Nat.le_refl _) hm (by simp [hz0]) hcell' hwz
      · have hspb : sp a.block = true := hsp (.cell a.block a.off) (MemPlace.mem_row.2 ⟨0, by omega, by simp⟩)
        exact shut_ints (enc := enc) (w := W') (base := 0) (spare := sp) (held := true) (a := a) (len := len) (cap := cap) (zs := zs) 0 Try.underlying53 Try.underlying22 cells22 (Nat.zero_le _) hl hm (by simp [hspb, hz]) hcell' hwz
    exact ⟨_, rfl, post_of_tr (pa := MemPlace.row a zs.length) (pv := []) hW' ht (fun _ _ _ => (trodAll_cons_mk (shut_bool Try.underlying4 _) trodAll_mk0))
      (fun sp hsp => by
        have t := trodAll_cons_mk (shut_int Try.underlying5 w0) (trodAll_cons_mk (⟨2, by simpa [Value.cells] using again sp (fun p hp => hsp p (by simpa using hp))⟩ : DataW.Trod enc Try.prog W' 0 sp true 53 (.slice (some a) len cap) (.slice (lits .u64 (zs.take len)) (lits .u64 (zs.drop len))) (MemPlace.row a zs.length)) (trodAll_cons_mk (shut_bool Try.underlying4 a2) trodAll_mk0))
        simp only [List.nil_append, List.append_nil] at t
        exact t) (fun _ _ => rfl) (by simp)
      (ok_one (by kernel_rfl) rfl (okWide_bool_mk Try.underlying4 _))⟩

theorem over : Rows.kmvAddsRow.holds Try.pinned (OpenSpec.ofChange Rows.kmvAddsSpec) :=
  OpenClaim.holds_of_wide 6 Try.f6 rfl rfl rfl rfl rfl rfl rfl ⟨rfl, rfl, rfl, rfl, rfl⟩ rfl rfl rfl rfl rfl (by kernel_rfl) Try.func6 (by kernel_rfl)
    (of_decide_eq_true (by kernel_rfl)) (by unfold Func.isWrapper; first | (rw [if_pos (by decide +kernel)]; kernel_rfl) | (rw [if_neg (by decide +kernel)]; exact ⟨rfl, rfl⟩))
    (fun os started H enc _ => lifted os started H enc)

/-- ████ THE STATEMENT ████ -/
theorem proved : Rows.KmvAddsSaid :=
  over
#print axioms proved
end Go.Proofs.Ytncnkfjddolabaa.kmvAdds
