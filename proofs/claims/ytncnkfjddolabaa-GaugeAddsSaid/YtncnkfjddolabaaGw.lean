/- The fixed fact of layer 16. -/
import Derived.Test.YtncnkfjddolabaaGc
set_option linter.unusedVariables false
set_option linter.unusedSimpArgs false
namespace Go.Proofs.Ytncnkfjddolabaa
open Go Go.RowKit Go.Shelf

theorem aw_k0 : Fl.keyT 0 = 9223372036854775808 := by kernel_rfl
theorem aw_k1 : Fl.keyT 9223372036854775808 = 9223372036854775807 := by kernel_rfl
theorem aw_k2 : Fl.keyT 9221120237041090561 = 18444492273895866369 := by kernel_rfl
def awX (l : List Nat) : Gn := gN l
theorem aw_L1 : (Gg.merge [] [Fl.cq 0]).take 3 = [0] := by
  rw [show Fl.cq 0 = 0 by decide, Gg.m2]; simp [Gg.merge]
theorem aw_L2 : (Gg.merge [0] [Fl.cq 9223372036854775808]).take 3 = [9223372036854775808, 0] := by
  rw [show Fl.cq 9223372036854775808 = 9223372036854775808 by decide, Gg.m4 _ _ (by rw [aw_k0, aw_k1]; decide)]; simp [Gg.merge]
theorem aw_L3 : (Gg.merge [9223372036854775808, 0] [Fl.cq 9221120237041090561]).take 3 = [9223372036854775808, 0, 9221120237041090561] := by
  rw [show Fl.cq 9221120237041090561 = 9221120237041090561 by decide, Gg.m3 _ _ (by rw [aw_k1, aw_k2]; decide), Gg.m3 _ _ (by rw [aw_k0, aw_k2]; decide)]; simp [Gg.merge]
theorem aw_many : (gN [0, 9223372036854775808, 9221120237041090561]).many = 3 := by kernel_rfl
theorem aw_lo : (gN [0, 9223372036854775808, 9221120237041090561]).lo = 9223372036854775808 := by kernel_rfl
theorem aw_hi : (gN [0, 9223372036854775808, 9221120237041090561]).hi = 0 := by kernel_rfl
theorem aw_s0 : Fl.signT 0 = false := by kernel_rfl
theorem aw_s1 : Fl.signT 9223372036854775808 = true := by kernel_rfl
theorem aw_nan : (FloatKind.f64.format.order 9221120237041090561 9221120237041090561 != some Ordering.eq) = true := by kernel_rfl
theorem aw_c : Fl.copyT 0 13830554455654793216 = 9223372036854775808 := by kernel_rfl

theorem aw_add (w : World) (x : Gn) (hX : x.Ok) (v : Value) (xs : List Nat) (b : Nat) (hb : b < 18446744073709551616) (hx : RdV w 1 v xs.length (fv xs)) (hl : xs.length ≤ 3) (zs : List Nat) (hz : (Gg.merge xs [Fl.cq b]).take 3 = zs) (z : Gn) (hzz : x.join (oneN b) = z) :
    Calls Try.prog 37 #[.agg (x.val 3 v), .float .f64 b] w (Gg.Gives w 3 z zs) := by
  have := gauge_add w 3 x hX v xs b (Lib.hid hb) hx (by omega) (by omega) (by omega)
  rw [show (3 : Int).toNat = 3 by rfl, hz, hzz] at this
  exact this

set_option maxRecDepth 100000 in
set_option maxHeartbeats 16000000 in
theorem awake16 (w : World) : Calls Try.prog 12 #[] w fun e w' => e = .returned (.bool true) ∧ Tr [] w w' := by
  have sf := store_f
  have A1 : Hid (∀ w', Calls Try.prog 37 #[.agg (Gv 3 0 0 0 0 0 0 0 fInf fNinf (.slice none 0 0)), .float .f64 0] w' (Gg.Gives w' 3 (gN [0]) [0])) := Lib.hid fun w' =>
    aw_add w' (gN []) (gN_ok []) (.slice none 0 0) [] 0 (by decide) (RdV.nil _ _) (by simp) _ aw_L1 _ rfl
  have A2 : Hid (∀ w' v, RdV w' 1 v 1 (fv [0]) → Calls Try.prog 37 #[.agg ((gN [0]).val 3 v), .float .f64 9223372036854775808] w' (Gg.Gives w' 3 (gN [0, 9223372036854775808]) [9223372036854775808, 0])) := Lib.hid fun w' v h =>
    aw_add w' (gN [0]) (gN_ok _) v [0] 9223372036854775808 (by decide) h (by simp) _ aw_L2 _ rfl
  have A3 : Hid (∀ w' v, RdV w' 1 v 2 (fv [9223372036854775808, 0]) → Calls Try.prog 37 #[.agg ((gN [0, 9223372036854775808]).val 3 v), .float .f64 9221120237041090561] w' (Gg.Gives w' 3 (gN [0, 9223372036854775808, 9221120237041090561]) [9223372036854775808, 0, 9221120237041090561])) := Lib.hid fun w' v h =>
    aw_add w' (gN [0, 9223372036854775808]) (gN_ok _) v [9223372036854775808, 0] 9221120237041090561 (by decide) h (by simp) _ aw_L3 _ rfl
  have HF := Lib.hid (And.intro aw_many (And.intro aw_lo (And.intro aw_hi aw_c)))
  generalize gN [0] = x1 at A1 A2
  generalize gN [0, 9223372036854775808] = x2 at A2 A3
  generalize gN [0, 9223372036854775808, 9221120237041090561] = x3 at A3 HF
  go_enter Try.func12, Try.ntmps12
  go_wp2_with (first
    | (go_at_call 22; refine (gnew_ok 3 (by decide) (by decide) _).mono ?_; rintro e w2 ⟨rfl, ht2⟩; have HT2 := Lib.hid ht2; clear ht2)
    | (go_at_call 31; refine (copy_any _ _ _).mono ?_; rintro e w' ⟨rfl, rfl⟩; rw [HF.out.2.2.2])
    | (go_at_call 32; refine (nan_any _).mono ?_; rintro e w' ⟨rfl, rfl⟩)
    | (go_at_call 37; (with_reducible refine (A1.out _).mono ?_); rintro e w3 ⟨v3, rfl, h3, t3, f3⟩; have H3 := Lib.hid h3; have T3 := Lib.hid t3; have HS3 := Lib.hid ((t3.block _ (by rw [szB]; exact Nat.lt_succ_self _) (by simp)).trans (heap_new w2 _)); clear h3 t3 f3)
    | (go_at_call 37; (with_reducible refine (A2.out _ _ H3.out.rd).mono ?_); rintro e w4 ⟨v4, rfl, h4, t4, f4⟩; have H4 := Lib.hid h4; have T4 := Lib.hid t4; have HS4 := Lib.hid ((t4.block _ (lt_of_heap HS3.out) (by simp)).trans HS3.out); clear h4 t4 f4)
    | (go_at_call 37; (with_reducible refine (A3.out _ _ H4.out.rd).mono ?_); rintro e w5 ⟨v5, rfl, h5, t5, f5⟩; have H5 := Lib.hid h5; have T5 := Lib.hid t5; have F5 := Lib.hid f5; have s5 := (t5.block _ (lt_of_heap HS4.out) (by simp)).trans HS4.out; have HS5 := Lib.hid s5; have r0 := cell_cells s5 0; have r1 := cell_cells s5 1; have r2 := cell_cells s5 2; have r3 := cell_cells s5 3; have r4 := cell_cells s5 4; have r5 := cell_cells s5 5; have r6 := cell_cells s5 6; have r7 := cell_cells s5 7; have r8 := cell_cells s5 8; have r9 := cell_cells s5 9; have r10 := cell_cells s5 10; have fR := fun o => frozen_cells s5 o; simp at r0 r1 r2 r3 r4 r5 r6 r7 r8 r9 r10; obtain ⟨A5, c5, rfl, _⟩ := h5.rd.slice; clear h5 t5 f5 s5))
  obtain ⟨W, hW⟩ : ∃ W, W = (((((((((((w5.setCell ⟨w2.heap.size, 0, none⟩ (.int .i64 3)).setCell ⟨w2.heap.size, 1, none⟩ (.int .u32 x3.many)).setCell ⟨w2.heap.size, 2, none⟩ (.int .u32 x3.e0)).setCell ⟨w2.heap.size, 3, none⟩ (.int .u32 x3.e1)).setCell ⟨w2.heap.size, 4, none⟩ (.int .u32 x3.e2)).setCell ⟨w2.heap.size, 5, none⟩ (.int .u32 x3.e3)).setCell
    ⟨w2.heap.size, 6, none⟩ (.int .u32 x3.e4)).setCell ⟨w2.heap.size, 7, none⟩ (.int .u32 x3.e5)).setCell ⟨w2.heap.size, 8, none⟩ (.float .f64 x3.lo)).setCell ⟨w2.heap.size, 9, none⟩ (.float .f64 x3.hi)).setCell ⟨w2.heap.size, 10, none⟩ (.slice A5 3 c5)) := ⟨_, rfl⟩
  have hs := set_all (z := ⟨0, 0, 0, 0, 0, 0, 0, fInf, fNinf⟩) (k0 := 3) (u := .slice none 0 0) HS5.out 3 x3 (.slice A5 3 c5)
  have ht := tr_all w5 w2.heap.size 3 x3 (.slice A5 3 c5)
  rw [← hW] at hs ht
  rw [← hW]
  clear hW fR r0 r1 r2 r3 r4 r5 r6 r7 r8 r9 r10
  have far : ∀ y ∈ ob (.slice A5 3 c5), y ∉ [w2.heap.size] := fun y hy => by
    have h1 := F5.out y hy
    have h2 := lt_of_heap HS4.out
    simp; omega
  have rd := (H5.out.keep ht far).rd
  have TT : Tr [] w W := (((((HT2.out.alloc _).trans T3.out (by simp)).trans T4.out (by simp)).trans T5.out (by simp))).trans ht (fun y hy => .inr (by have := HT2.out.size; simp at hy; omega))
  obtain ⟨b, f, c', hv, _, _, _, hcell⟩ := rd.ptr (by simp)
  cases hv
  have e2 := hcell 2 _ rfl
  have q1 := cell_cells hs 1
  have q8 := cell_cells hs 8
  have q9 := cell_cells hs 9
  have qA := cell_cells hs 10
  simp at q1 q8 q9 qA
  rw [HF.out.1] at q1
  rw [HF.out.2.1] at q8
  rw [HF.out.2.2.1] at q9
  have TH := Lib.hid TT
  have hn := aw_nan
  have S0 : Hid (∀ n, Calls Try.prog 36 #[.float .f64 0] (W.drewN n) fun e w' => e = .returned (.bool false) ∧ ∃ m, w' = W.drewN m) := Lib.hid fun n => by
    have := sign_any 0 (W.drewN n); rw [aw_s0] at this; exact this.mono fun _ _ ⟨h, e⟩ => ⟨h, n, e.symm⟩
  have S1 : Hid (∀ n, Calls Try.prog 36 #[.float .f64 9223372036854775808] (W.drewN n) fun e w' => e = .returned (.bool true) ∧ ∃ m, w' = W.drewN m) := Lib.hid fun n => by
    have := sign_any 9223372036854775808 (W.drewN n); rw [aw_s1] at this; exact this.mono fun _ _ ⟨h, e⟩ => ⟨h, n, e.symm⟩
  clear hcell hs ht rd far TT
  go_wp2
  go_quiet ((first | (go_at_call 36; (with_reducible exact S0.out _)) | (go_at_call 36; (with_reducible exact S1.out _))))
  go_wp2
  go_ret
  exact ⟨rfl, TH.out.drewN _⟩
end Go.Proofs.Ytncnkfjddolabaa
