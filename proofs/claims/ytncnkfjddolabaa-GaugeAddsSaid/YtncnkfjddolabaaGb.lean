/- Walks: law 16's Item.Float and Gauge. -/
import Derived.Test.YtncnkfjddolabaaGa
set_option linter.unusedVariables false
set_option linter.unusedSimpArgs false
namespace Go.Proofs.Ytncnkfjddolabaa
open Go Go.RowKit Go.Shelf

theorem item_float (n e : Int) (h0 : 0 ≤ n) (h1 : 0 ≤ e) (w : World) :
    Calls Try.prog 15 #[.agg #[.int .u64 n, .int .u8 e]] w fun r w' => r = .returned (.float .f64 (Fl.floatT n e)) ∧ Tr [] w w' := by
  go_enter Try.func15, Try.ntmps15
  go_wp2_with (go_at_call 8; refine (float_any n e h0 h1 _).mono ?_; rintro r w' ⟨rfl, rfl⟩)
  go_ret
  exact ⟨rfl, (Tr.refl [] w).alloc _⟩

/-- Items as cells. -/
def itv (l : List (Int × Int)) : List Value := l.flatMap fun p => [.int .u64 p.1, .int .u8 p.2]
theorem itv_len : ∀ l : List (Int × Int), (itv l).length = l.length * 2
  | [] => rfl
  | p :: l => by
    have := itv_len l
    unfold itv at *
    rw [List.flatMap_cons, List.length_append, this]; simp; omega
theorem itv_get : ∀ (l : List (Int × Int)) (i : Nat), i < l.length → (itv l)[i * 2]? = some (.int .u64 (l.getD i (0, 0)).1) ∧ (itv l)[i * 2 + 1]? = some (.int .u8 (l.getD i (0, 0)).2)
  | [], i, h => by simp at h
  | p :: l, 0, _ => by simp [itv]
  | p :: l, i + 1, h => by
    have := itv_get l i (by simpa using h)
    unfold itv at *
    rw [List.flatMap_cons, show (i + 1) * 2 = i * 2 + 2 by omega, show i * 2 + 2 + 1 = i * 2 + 1 + 2 by omega]
    simpa using this
def ItOk (l : List (Int × Int)) : Prop := ∀ p ∈ l, 0 ≤ p.1 ∧ p.1 < 18446744073709551616 ∧ 0 ≤ p.2
def itf (l : List (Int × Int)) : List Nat := l.map fun p => Fl.floatT p.1 p.2

theorem copy_lt (a b : Nat) : Fl.copyT a b < 18446744073709551616 := by
  unfold Fl.copyT
  have h := bits_within .or .u64 (bits .andNot .u64 (a : Int) 9223372036854775808) (bits .and .u64 (b : Int) 9223372036854775808)
  have h1 : IntKind.u64.max = 18446744073709551615 := rfl
  have h2 : IntKind.u64.min = 0 := rfl
  omega
theorem foi_lt (v : Int) (h0 : -1000 ≤ v) (h1 : v ≤ 1000) : floatOfInt .f64 v < 18446744073709551616 := by
  have h0 := Fl.whole_fin (decide (v < 0)) v.natAbs 0 (by omega) (by decide)
  have h2 : Fl.Fin (Ieee.double.nearest (decide (v < 0)) v.natAbs 0) (decide (v < 0)) (v.natAbs * Fl.K) := by simpa using h0
  exact h2.lt
theorem floatT_lt (n e : Int) (h0 : 0 ≤ n) (h1 : n < 18446744073709551616) : Fl.floatT n e < 18446744073709551616 := by
  unfold Fl.floatT Fl.infT
  repeat' split
  all_goals first | omega | exact copy_lt _ _ | exact foi_lt _ (by omega) (by omega)

/-- What a row of floats measures. -/
def gN (l : List Nat) : Gn := l.foldl (fun g b => g.join (oneN b)) ⟨0, 0, 0, 0, 0, 0, 0, fInf, fNinf⟩
def gL (k : Nat) (l : List Nat) : List Nat := l.foldl (fun zs b => (Gg.merge zs [Fl.cq b]).take k) []
theorem gN_snoc (l : List Nat) (b : Nat) : gN (l ++ [b]) = (gN l).join (oneN b) := by simp [gN]
theorem gL_snoc (k : Nat) (l : List Nat) (b : Nat) : gL k (l ++ [b]) = (Gg.merge (gL k l) [Fl.cq b]).take k := by simp [gL]
theorem gN_ok (l : List Nat) : (gN l).Ok := by
  unfold gN
  have : ∀ (l : List Nat) (g : Gn), g.Ok → (l.foldl (fun g b => g.join (oneN b)) g).Ok := by
    intro l
    induction l with
    | nil => intro g h; exact h
    | cons b l ih => intro g h; exact ih _ (Gn.join_ok h (oneN_ok b))
  exact this l _ (by unfold Gn.Ok u32; simp)
theorem gL_len (k : Nat) (l : List Nat) : (gL k l).length ≤ k := by
  unfold gL
  have : ∀ (l zs : List Nat), zs.length ≤ k → (l.foldl (fun zs b => (Gg.merge zs [Fl.cq b]).take k) zs).length ≤ k := by
    intro l
    induction l with
    | nil => intro zs h; exact h
    | cons b l ih => intro zs h; exact ih _ (by simp; omega)
  exact this l [] (by simp)

theorem take_snoc' {l : List (Int × Int)} {i : Nat} (h : i < l.length) : l.take (i + 1) = l.take i ++ [l.getD i (0, 0)] := by
  rw [List.take_succ_eq_append_getElem h]; simp [h]
theorem itf_snoc {l : List (Int × Int)} {i : Nat} (h : i < l.length) : itf (l.take (i + 1)) = itf (l.take i) ++ [Fl.floatT (l.getD i (0, 0)).1 (l.getD i (0, 0)).2] := by
  rw [take_snoc' h]; simp [itf]

def PSq : Dq.PS := ⟨PSp.pu, spOf, fun n => n == 53 || n == 15⟩
/-- A gauge stored over a gauge. -/
theorem set_all {w : World} {B : Nat} {z : Gn} {k0 : Int} {u : Value} (h : w.heap[B]? = some (.cells (z.val k0 u) 37 (0, 0))) (k : Int) (x : Gn) (v : Value) :
    (((((((((((w.setCell ⟨B, 0, none⟩ (.int .i64 k)).setCell ⟨B, 1, none⟩ (.int .u32 x.many)).setCell ⟨B, 2, none⟩ (.int .u32 x.e0)).setCell ⟨B, 3, none⟩ (.int .u32 x.e1)).setCell ⟨B, 4, none⟩ (.int .u32 x.e2)).setCell ⟨B, 5, none⟩ (.int .u32 x.e3)).setCell ⟨B, 6, none⟩ (.int .u32 x.e4)).setCell ⟨B, 7, none⟩ (.int .u32 x.e5)).setCell ⟨B, 8, none⟩ (.float .f64 x.lo)).setCell ⟨B, 9, none⟩ (.float .f64 x.hi)).setCell ⟨B, 10, none⟩ v).heap[B]? = some (.cells (x.val k v) 37 (0, 0)) := by
  have h1 := heap_setCell (o := 0) h (.int .i64 k)
  have h2 := heap_setCell (o := 1) h1 (.int .u32 x.many)
  have h3 := heap_setCell (o := 2) h2 (.int .u32 x.e0)
  have h4 := heap_setCell (o := 3) h3 (.int .u32 x.e1)
  have h5 := heap_setCell (o := 4) h4 (.int .u32 x.e2)
  have h6 := heap_setCell (o := 5) h5 (.int .u32 x.e3)
  have h7 := heap_setCell (o := 6) h6 (.int .u32 x.e4)
  have h8 := heap_setCell (o := 7) h7 (.int .u32 x.e5)
  have h9 := heap_setCell (o := 8) h8 (.float .f64 x.lo)
  have h10 := heap_setCell (o := 9) h9 (.float .f64 x.hi)
  have h11 := heap_setCell (o := 10) h10 v
  exact h11.trans (by simp)
theorem tr_all (w : World) (B : Nat) (k : Int) (x : Gn) (v : Value) :
    Tr [B] w ((((((((((((w.setCell ⟨B, 0, none⟩ (.int .i64 k)).setCell ⟨B, 1, none⟩ (.int .u32 x.many)).setCell ⟨B, 2, none⟩ (.int .u32 x.e0)).setCell ⟨B, 3, none⟩ (.int .u32 x.e1)).setCell ⟨B, 4, none⟩ (.int .u32 x.e2)).setCell ⟨B, 5, none⟩ (.int .u32 x.e3)).setCell ⟨B, 6, none⟩ (.int .u32 x.e4)).setCell ⟨B, 7, none⟩ (.int .u32 x.e5)).setCell ⟨B, 8, none⟩ (.float .f64 x.lo)).setCell ⟨B, 9, none⟩ (.float .f64 x.hi)).setCell ⟨B, 10, none⟩ v)) := by
  repeat (refine Tr.setCell ?_ (.inl (by simp)) _)
  exact Tr.refl _ _

/-- What holds at the head of a round of the laws' Gauge. -/
structure Gg.Lw (w wr : World) (B5 : Nat) (k : Int) (bs : List Nat) (v : Value) : Prop where
  tr : Tr [] w wr
  z : ∃ z u, wr.heap[w.heap.size]? = some (.cells (Gn.val z 0 u) 37 (0, 0))
  s : wr.heap[B5]? = some (.cells ((gN bs).val k v) 37 (0, 0))
  own : Own wr 24 1 v (gL k.toNat bs).length (fv (gL k.toNat bs))
  far : ∀ x ∈ ob v, w.heap.size < x ∧ x ≠ B5
  lt : w.heap.size < B5

theorem elI : El Try.prog 32 41 2 16 := ⟨by kernel_rfl, by kernel_rfl, by decide⟩

set_option maxRecDepth 100000 in
set_option maxHeartbeats 16000000 in
theorem law_gauge (w : World) (k : Int) (vl : Value) (l : List (Int × Int)) (h : RdV w 2 vl l.length (itv l)) (hok : Hid (ItOk l)) (hk0 : 0 ≤ k) (hk1 : k ≤ 255) (hl : l.length ≤ 60) :
    Calls Try.prog 13 #[.int .u8 k, vl] w (Gg.Gives w (1 + k % 16) (gN (itf l)) (gL (1 + k % 16).toNat (itf l))) := by
  have sf := store_f
  obtain ⟨A, c, rfl, hoc⟩ := h.slice
  obtain ⟨K, hK⟩ : ∃ K, K = 1 + k % 16 := ⟨_, rfl⟩
  rw [← hK]
  have hKb : 1 ≤ K ∧ K ≤ 16 := by omega
  obtain ⟨hK1, hK2⟩ := hKb
  have e0 : k.tmod 16 = k % 16 := Int.tmod_eq_emod_of_nonneg hk0
  have e4 : 1 + k % 16 = K := hK.symm
  have H := Lib.hid h
  clear h hK
  go_enter Try.func13, Try.ntmps13
  go_wp2_with (go_at_call 22; refine (gnew_ok K hK1 hK2 _).mono ?_; rintro e w2 ⟨rfl, ht2⟩; have HT2 := Lib.hid ht2; clear ht2)
  have ST0 : Gg.Lw w (w2.alloc (.cells ((gN []).val K (.slice none 0 0)) 37)) w2.heap.size K [] (.slice none 0 0) := by
    have hsz := HT2.out.size
    rw [szB] at hsz
    refine ⟨(((Tr.refl [] w).alloc _).trans HT2.out (by simp)).alloc _, ⟨⟨0, 0, 0, 0, 0, 0, 0, 0, 0⟩, .slice none 0 0, heap_old _ ?_⟩, heap_new _ _, Own.nil _ _ _, by simp [ob, Value.ownBlock], by omega⟩
    rw [HT2.out.block _ (by rw [szB]; omega) (by simp)]
    exact heap_new _ _
  have ST := Lib.hid ST0
  clear ST0
  go_loopw [19] (fun vi wr => ∃ (i : Nat) (v : Value), vi = .int .i64 i ∧ i ≤ l.length ∧ Gg.Lw w wr w2.heap.size K (itf (l.take i)) v) (fun vi _ => l.length - gint vi)
  case atStart => exact ⟨0, _, rfl, by omega, ST.out⟩
  case round =>
    obtain ⟨i, v, rfl, hi, st⟩ := hrel
    by_cases hlt : i < l.length
    · have hlt' : (i : Int) < l.length := by omega
      obtain ⟨b, f, c', hv, _, _, _, hcell⟩ := (H.out.keep' st.tr).ptr (by omega)
      cases hv
      obtain ⟨g1, g2⟩ := itv_get l i hlt
      have c1 := hcell _ _ g1
      have c2 := hcell _ _ g2
      have SN := Lib.hid (itf_snoc hlt)
      obtain ⟨P, hP⟩ : ∃ P, P = l.getD i (0, 0) := ⟨_, rfl⟩
      rw [← hP] at c1 c2 SN
      have hPm : P ∈ l := by rw [hP]; simp [hlt]
      obtain ⟨p1, p2, p3⟩ := hok.out P hPm
      have HB := Lib.hid (floatT_lt P.1 P.2 p1 p2)
      clear hP hPm g1 g2 hcell p2
      rw [← Nat.add_assoc] at c2
      go_wp2
      obtain ⟨W, hW⟩ : ∃ W, W = wr.alloc (.cells #[.int .u64 P.1, .int .u8 P.2] 41) := ⟨_, rfl⟩
      rw [← hW]
      have ht : Tr [] wr W := by rw [hW]; exact (Tr.refl [] wr).alloc _
      have hs : W.heap[w2.heap.size]? = some (.cells ((gN (itf (l.take i))).val K v) 37 (0, 0)) := by rw [hW]; exact heap_old _ st.s
      have hi8 : W.heap[wr.heap.size]? = some (.cells #[.int .u64 P.1, .int .u8 P.2] 41 (0, 0)) := by rw [hW]; exact heap_new _ _
      have s0 := cell_cells hs 0
      have s1 := cell_cells hs 1
      have s2 := cell_cells hs 2
      have s3 := cell_cells hs 3
      have s4 := cell_cells hs 4
      have s5 := cell_cells hs 5
      have s6 := cell_cells hs 6
      have s7 := cell_cells hs 7
      have s8 := cell_cells hs 8
      have s9 := cell_cells hs 9
      have s10 := cell_cells hs 10
      have i0 := cell_cells hi8 0
      have i1 := cell_cells hi8 1
      simp at s0 s1 s2 s3 s4 s5 s6 s7 s8 s9 s10 i0 i1
      have HSS := Lib.hid hs
      have HT := Lib.hid ht.drew
      have HST := Lib.hid st
      obtain ⟨zs, hzs⟩ : ∃ zs, zs = gL K.toNat (itf (l.take i)) := ⟨_, rfl⟩
      have HA : Hid (∀ w5, Tr [] W.drew w5 → Calls Try.prog 37 #[.agg ((gN (itf (l.take i))).val K v), .float .f64 (Fl.floatT P.1 P.2)] w5 (Gg.Gives w5 K (gN (itf (l.take (i + 1)))) (gL K.toNat (itf (l.take (i + 1)))))) := Lib.hid (fun w5 t5 => by
        have hlen := gL_len K.toNat (itf (l.take i))
        have := gauge_add w5 K (gN (itf (l.take i))) (gN_ok _) v (gL K.toNat (itf (l.take i))) (Fl.floatT P.1 P.2) HB ((HST.out.own.rd.keep' HT.out).keep' t5) (by omega) (by omega) (by omega)
        rw [SN.out, gN_snoc, gL_snoc]
        exact this)
      clear hW ht hs hi8 st hzs c1 c2
      go_wp2
      refine Dq.wp_region_text PSq (by kernel_rfl) (by kernel_rfl) ?_
      iterate 2 (refine Dq.wpT_plain rfl rfl (by first | exact True.intro | exact ⟨rfl, rfl⟩ | exact rfl | exact ⟨_, rfl⟩ | exact ⟨_, _, rfl, by first | assumption | (simp [*]; done)⟩) (fun _ _ => ?_); go_wp2)
      refine Dq.wpT_keep (n := 0) rfl rfl rfl (fun Kc hK => ?_)
      go_wp2_with (go_at_call 15; refine (item_float P.1 P.2 p1 p3 _).mono ?_; rintro e w3 ⟨rfl, ht3⟩; have HT3 := Lib.hid ht3; clear ht3)
      refine hK _ _ (fun j hj => HT3.out.block j hj (by simp)) ?_
      clear hK s0 s1 s2 s3 s4 s5 s6 s7 s8 s9 s10 i0 i1
      refine Dq.wpT_plain rfl rfl True.intro (fun K2 hK2 => ?_)
      go_wp2_with (go_at_call 37; refine (HA.out _ HT3.out).mono ?_; rintro e w4 ⟨v4, rfl, hown4, ht4, hf4⟩; have s4 := (ht4.block w2.heap.size (by have h1 := HT3.out.size; have h2 := HT.out.size; have h3 := lt_of_heap HSS.out; have h4 : W.drew.heap.size = W.heap.size := rfl; omega) (by simp)).trans ((HT3.out.block _ (by have h3 := lt_of_heap HSS.out; exact h3) (by simp)).trans HSS.out); have HO4 := Lib.hid hown4; have HT4 := Lib.hid ht4; have HF4 := Lib.hid hf4; have HS4 := Lib.hid s4; have r0 := cell_cells s4 0; have r1 := cell_cells s4 1; have r2 := cell_cells s4 2; have r3 := cell_cells s4 3; have r4 := cell_cells s4 4; have r5 := cell_cells s4 5; have r6 := cell_cells s4 6; have r7 := cell_cells s4 7; have r8 := cell_cells s4 8; have r9 := cell_cells s4 9; have r10 := cell_cells s4 10; have fR := fun o => frozen_cells s4 o; simp at r0 r1 r2 r3 r4 r5 r6 r7 r8 r9 r10; obtain ⟨A4, c4, rfl, _⟩ := hown4.rd.slice; clear hown4 ht4 hf4 s4)
      refine Dq.wpT_plain rfl rfl (by first | exact True.intro | exact ⟨rfl, rfl⟩ | exact rfl | exact ⟨_, rfl⟩ | exact ⟨_, _, rfl, by first | assumption | (simp [*]; done)⟩) (fun _ _ => ?_)
      go_wp2
      refine Dq.wpT_nil ?_
      go_wp2
      go_roundw
      case rel =>
        refine ⟨i + 1, .slice A4 (gL K.toNat (itf (l.take (i + 1)))).length c4, by simp, by omega, ?_⟩
        have z1 := HT.out.size
        have z2 := HT3.out.size
        have z3 := HT4.out.size
        have z4 := lt_of_heap HSS.out
        have z5 : W.drew.heap.size = W.heap.size := rfl
        have z6 := HST.out.lt
        have TA : Tr [] w w4 := (((HST.out.tr.trans HT.out (by simp)).trans HT3.out (by simp)).trans HT4.out (by simp))
        have far : ∀ y ∈ ob (.slice A4 (gL K.toNat (itf (l.take (i + 1)))).length c4), w.heap.size < y ∧ y ≠ w2.heap.size := fun y hy => by have := HF4.out y hy; omega
        refine ⟨?_, ?_, set_all HS4.out K (gN (itf (l.take (i + 1)))) (.slice A4 (gL K.toNat (itf (l.take (i + 1)))).length c4), HO4.out.keep (tr_all _ _ _ _ _) (fun y hy => by have := far y hy; simp; omega), far, z6⟩
        · exact TA.trans (tr_all _ _ _ _ _) (fun y hy => .inr (by simp at hy; omega))
        · obtain ⟨zz, uu, hz⟩ := HST.out.z
          refine ⟨zz, uu, ?_⟩
          rw [(tr_all _ _ _ _ _).block _ (by have := lt_of_heap hz; omega) (by simp; omega)]
          have z7 := lt_of_heap hz
          rw [HT4.out.block _ (by omega) (by simp), HT3.out.block _ (by omega) (by simp), HT.out.block _ z7 (by simp)]
          exact hz
      case measure => simp only [gint]; omega
    · obtain rfl : i = l.length := by omega
      rw [List.take_length] at st
      obtain ⟨A5, c5, rfl, _⟩ := st.own.rd.slice
      obtain ⟨zz, uu, hz⟩ := st.z
      have r0 := cell_cells hz 0
      have r1 := cell_cells hz 1
      have r2 := cell_cells hz 2
      have r3 := cell_cells hz 3
      have r4 := cell_cells hz 4
      have r5 := cell_cells hz 5
      have r6 := cell_cells hz 6
      have r7 := cell_cells hz 7
      have r8 := cell_cells hz 8
      have r9 := cell_cells hz 9
      have r10 := cell_cells hz 10
      have s0 := cell_cells st.s 0
      have s1 := cell_cells st.s 1
      have s2 := cell_cells st.s 2
      have s3 := cell_cells st.s 3
      have s4 := cell_cells st.s 4
      have s5 := cell_cells st.s 5
      have s6 := cell_cells st.s 6
      have s7 := cell_cells st.s 7
      have s8 := cell_cells st.s 8
      have s9 := cell_cells st.s 9
      have s10 := cell_cells st.s 10
      have fR := fun o => frozen_cells hz o
      simp at r0 r1 r2 r3 r4 r5 r6 r7 r8 r9 r10 s0 s1 s2 s3 s4 s5 s6 s7 s8 s9 s10
      have HST := Lib.hid st
      have HZ := Lib.hid hz
      clear st hz
      go_wp2
      refine bodyPost_ret (v := .agg ((gN (itf l)).val K (.slice A5 (gL K.toNat (itf l)).length c5))) (by simp [results, Try.results13, go_sem, r0, r1, r2, r3, r4, r5, r6, r7, r8, r9, r10]) rfl ?_
      refine ⟨_, rfl, ?_⟩
      have TT : ∀ w5, Tr [w.heap.size] wr w5 → Own w5 24 1 (.slice A5 (gL K.toNat (itf l)).length c5) (gL K.toNat (itf l)).length (fv (gL K.toNat (itf l))) ∧ Tr [] w w5 ∧ ∀ y ∈ ob (.slice A5 (gL K.toNat (itf l)).length c5), w.heap.size ≤ y := fun w5 t5 =>
        ⟨HST.out.own.keep t5 (fun y hy => by have := HST.out.far y hy; simp; omega), HST.out.tr.trans t5 (fun y hy => .inr (by simp at hy; omega)), fun y hy => by have := HST.out.far y hy; omega⟩
      refine TT _ ?_
      repeat (refine Tr.setCell ?_ (.inl (by simp)) _)
      exact Tr.refl _ _
end Go.Proofs.Ytncnkfjddolabaa
