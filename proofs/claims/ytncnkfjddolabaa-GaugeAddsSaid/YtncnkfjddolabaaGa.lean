/- Walks: gauge.Add. -/
import Derived.Test.YtncnkfjddolabaaGm
set_option linter.unusedVariables false
set_option linter.unusedSimpArgs false
namespace Go.Proofs.Ytncnkfjddolabaa
open Go Go.RowKit Go.Shelf

abbrev oneN (b : Nat) : Gn := ⟨1, hot (Fl.edgeT b) 0, hot (Fl.edgeT b) 1, hot (Fl.edgeT b) 2, hot (Fl.edgeT b) 3, hot (Fl.edgeT b) 4, hot (Fl.edgeT b) 5, Gg.low1 b, Gg.high1 b⟩
theorem hot_u32 (E i : Int) : u32 (hot E i) := by unfold hot u32; split <;> omega
theorem oneN_ok (b : Nat) : (oneN b).Ok := ⟨⟨by show (0:Int) ≤ 1; decide, by show (1:Int) < _; decide⟩, hot_u32 _ _, hot_u32 _ _, hot_u32 _ _, hot_u32 _ _, hot_u32 _ _, hot_u32 _ _⟩

set_option maxRecDepth 100000 in
set_option maxHeartbeats 16000000 in
theorem gauge_add (w : World) (k : Int) (x : Gn) (hX : x.Ok) (vx : Value) (xs : List Nat) (b : Nat) (hb : Hid (b < 18446744073709551616)) (hx : RdV w 1 vx xs.length (fv xs)) (hk : k < 4294967296) (h0 : 0 ≤ k) (hxl : xs.length < 4294967296) :
    Calls Try.prog 37 #[.agg (x.val k vx), .float .f64 b] w (Gg.Gives w k (x.join (oneN b)) ((Gg.merge xs [Fl.cq b]).take k.toNat)) := by
  have sf := store_f
  obtain ⟨zs, hzs⟩ : ∃ zs, zs = (Gg.merge xs [Fl.cq b]).take k.toNat := ⟨_, rfl⟩
  obtain ⟨z, hz⟩ : ∃ z, z = x.join (oneN b) := ⟨_, rfl⟩
  have M : ∀ (w2 : World) (v : Value), RdV w2 1 vx xs.length (fv xs) → RdV w2 1 v 1 (fv [Fl.cq b]) → Calls Try.prog 52 #[.agg (x.val k vx), .agg ((oneN b).val k v)] w2 (Gg.Gives w2 k z zs) := fun w2 v h1 h2 => by
    rw [hz, hzs]; exact gauge_merge w2 k k x (oneN b) hX (oneN_ok b) vx v xs [Fl.cq b] h1 h2 hk h0 hxl (by simp)
  rw [← hz, ← hzs]
  have HM := Lib.hid M
  have HX := Lib.hid hx
  clear M hz hzs hx hX
  go_enter Try.func37, Try.ntmps37
  go_wp2
  obtain ⟨W, hW⟩ : ∃ W, W = (w.alloc (.cells (x.val k vx) 37)).alloc (.cells (Gv 0 0 0 0 0 0 0 0 0 0 (.slice none 0 0)) 37) := ⟨_, rfl⟩
  rw [← hW]
  have ht : Tr [] w W := by rw [hW]; exact ((Tr.refl [] w).alloc _).alloc _
  have hz : W.heap.size = w.heap.size + 1 + 1 := by rw [hW, szB, szB]
  have s0 : W.heap[w.heap.size]? = some (.cells (x.val k vx) 37 (0, 0)) := by rw [hW]; exact heap_old _ (heap_new _ _)
  have s1 : W.heap[w.heap.size + 1]? = some (.cells (Gv 0 0 0 0 0 0 0 0 0 0 (.slice none 0 0)) 37 (0, 0)) := by rw [hW]; exact heap_at _ (by rw [szB])
  clear hW
  have a0 := cell_cells s0 0
  have a1 := cell_cells s0 1
  have a2 := cell_cells s0 2
  have a3 := cell_cells s0 3
  have a4 := cell_cells s0 4
  have a5 := cell_cells s0 5
  have a6 := cell_cells s0 6
  have a7 := cell_cells s0 7
  have a8 := cell_cells s0 8
  have a9 := cell_cells s0 9
  have aA := cell_cells s0 10
  simp at a0 a1 a2 a3 a4 a5 a6 a7 a8 a9 aA
  have HZ := Lib.hid hz
  have HS := Lib.hid s1
  have HT := Lib.hid ht.drew
  clear s0 s1 hz ht
  refine Dq.wp_region_text PSp (by kernel_rfl) (by kernel_rfl) ?_
  iterate 4 (refine Dq.wpT_plain rfl rfl (by first | exact True.intro | exact ⟨rfl, rfl⟩ | exact rfl | exact ⟨_, rfl⟩ | exact ⟨_, _, rfl, by first | assumption | (simp [*]; done)⟩) (fun _ _ => ?_); go_wp2)
  refine Dq.wpT_keep (n := 0) rfl rfl rfl (fun K hK => ?_)
  clear a0 a1 a2 a3 a4 a5 a6 a7 a8 a9 aA
  go_wp2_with (go_at_call 53; refine (gone k b hb _).mono ?_; rintro e w2 ⟨v2, rfl, hr2, ht2⟩; have HR2 := Lib.hid hr2; have HT2 := Lib.hid ht2; clear hr2 ht2)
  refine hK _ _ (fun i hi => HT2.out.block i hi (by simp)) ?_
  clear hK
  refine Dq.wpT_plain rfl rfl True.intro (fun K2 hK2 => ?_)
  go_wp2_with ((go_at_call 52; refine (HM.out _ _ (HX.out.keep' (HT.out.trans HT2.out (by simp))) HR2.out).mono ?_; rintro e w3 ⟨v3, rfl, hown3, ht3, hf3⟩; have s3 := (ht3.block (w.heap.size + 1) (by have h1 := HT2.out.size; have h2 := HZ.out; have h3 : W.drew.heap.size = W.heap.size := rfl; omega) (by simp)).trans ((HT2.out.block _ (by have h2 := HZ.out; have h3 : W.drew.heap.size = W.heap.size := rfl; omega) (by simp)).trans HS.out); have HO3 := Lib.hid hown3; have HT3 := Lib.hid ht3; have HF3 := Lib.hid hf3; have r0 := cell_cells s3 0; have r1 := cell_cells s3 1; have r2 := cell_cells s3 2; have r3 := cell_cells s3 3; have r4 := cell_cells s3 4; have r5 := cell_cells s3 5; have r6 := cell_cells s3 6; have r7 := cell_cells s3 7; have r8 := cell_cells s3 8; have r9 := cell_cells s3 9; have r10 := cell_cells s3 10; have fR := fun o => frozen_cells s3 o; simp at r0 r1 r2 r3 r4 r5 r6 r7 r8 r9 r10; obtain ⟨A3, c3, rfl, _⟩ := hown3.rd.slice; clear hown3 ht3 hf3 s3))
  refine Dq.wpT_plain rfl rfl (by first | exact True.intro | exact ⟨rfl, rfl⟩ | exact rfl | exact ⟨_, rfl⟩ | exact ⟨_, _, rfl, by first | assumption | (simp [*]; done)⟩) (fun _ _ => ?_)
  go_wp2
  refine Dq.wpT_nil ?_
  go_wp2
  refine bodyPost_ret (v := .agg (z.val k (.slice A3 zs.length c3))) (by simp [results, Try.results37, go_sem, r0, r1, r2, r3, r4, r5, r6, r7, r8, r9, r10]) rfl ?_
  have hz2 := HT2.out.size
  have hz1 := HZ.out
  have hz3 : W.drew.heap.size = W.heap.size := rfl
  have far : ∀ y ∈ ob (.slice A3 zs.length c3), w.heap.size + 1 + 1 ≤ y := fun y hy => by have := HF3.out y hy; omega
  refine ⟨_, rfl, ?_⟩
  have TT : ∀ w5, Tr [w.heap.size + 1] w3 w5 → Own w5 24 1 (.slice A3 zs.length c3) zs.length (fv zs) ∧ Tr [] w w5 ∧ ∀ y ∈ ob (.slice A3 zs.length c3), w.heap.size ≤ y := fun w5 t5 =>
    ⟨HO3.out.keep t5 (fun y hy => by have := far y hy; simp; omega), ((HT.out.trans HT2.out (by simp)).trans HT3.out (by simp)).trans t5 (fun y hy => .inr (by simp at hy; omega)), fun y hy => by have := far y hy; omega⟩
  refine TT _ ?_
  repeat (refine Tr.setCell ?_ (.inl (by simp)) _)
  exact Tr.refl _ _
end Go.Proofs.Ytncnkfjddolabaa
