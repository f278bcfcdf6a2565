/- Walks: law 12's least. -/
import Derived.Test.YtncnkfjddolabaaSo
set_option linter.unusedVariables false
set_option linter.unusedSimpArgs false
namespace Go.Proofs.Ytncnkfjddolabaa
open Go Go.RowKit

def LeastGives (w : World) (zs : List Int) (e : Ending) (w' : World) : Prop := ∃ v, e = .returned v ∧ RdV w' 1 v zs.length (iv .u64 zs) ∧ Tr [] w w'

/-- What holds at the head of a round of least. -/
structure Le (w W wr : World) (Bs : Nat) (x ov : Value) (ys zs : List Int) : Prop where
  base : Tr [] w W
  tr : Tr [] W wr
  cell : W.cell? ⟨Bs, 0, none⟩ = some x
  rd : RdV W 1 x ys.length (iv .u64 ys)
  own : Own wr 22 1 ov zs.length (iv .u64 zs)
  far : ∀ x ∈ ob ov, W.heap.size ≤ x

theorem Le.start {w w1 W : World} {x : Value} {l : List Int} {b n c : Nat} (hown : Own w1 22 1 x l.length (iv .u64 l)) (ht1 : Tr (ob (.slice (some ⟨w.heap.size, 0, none⟩) n c)) (w.alloc (.cells #[] 22)) w1)
    (hb1 : ∀ z ∈ ob x, z ∈ ob (.slice (some ⟨w.heap.size, 0, none⟩) n c) ∨ (w.alloc (.cells #[] 22)).heap.size ≤ z) (htW : Tr (ob x) (w1.alloc (.cells #[x] 53)) W) (hrW : RdV W 1 x l.length (iv .u64 (Kmv.sort l))) :
    Le w W W w1.heap.size x (.slice none 0 0) (Kmv.sort l) [] := by
  have f1 : ∀ z ∈ ob x, w.heap.size ≤ z := fun z hz => by
    rcases hb1 z hz with h | h
    · simp [ob, Value.ownBlock] at h; omega
    · rw [szA] at h; omega
  have t0 : Tr [] w w1 := ((Tr.refl [] w).alloc _).trans ht1 (fun z hz => .inr (by simp [ob, Value.ownBlock] at hz; omega))
  have t1 : Tr [] w (w1.alloc (.cells #[x] 53)) := t0.alloc _
  refine ⟨t1.trans htW (fun z hz => .inr (f1 z hz)), Tr.refl _ _, ?_, by rw [Kmv.sort_len]; exact hrW, Own.nil _ _ _, by simp [ob, Value.ownBlock]⟩
  exact (htW.cell (p := ⟨w1.heap.size, 0, none⟩) (by simp) (fun h => Nat.lt_irrefl _ (hown.lt _ h))).trans (cell_cells (heap_new _ _) 0)
theorem Le.push {w W wr w1 w' : World} {Bs : Nat} {x ov v' : Value} {ys zs : List Int} {y : Int} (h : Le w W wr Bs x ov ys zs) (h1 : Tr [] wr w1) (hown : Own w' 22 1 v' (zs.length + 1) (iv .u64 zs ++ [.int .u64 y]))
    (ht : Tr (ob ov) w1 w') (hf : ∀ x ∈ ob v', x ∈ ob ov ∨ w1.heap.size ≤ x) : Le w W w' Bs x v' ys (zs ++ [y]) := by
  have s1 := h.tr.size
  have s2 := h1.size
  refine ⟨h.base, (h.tr.trans h1 (by simp)).trans ht (fun z hz => .inr (h.far z hz)), h.cell, h.rd, ?_, fun z hz => (hf z hz).elim (h.far z) (by omega)⟩
  rw [show (zs ++ [y]).length = zs.length + 1 by simp, show iv .u64 (zs ++ [y]) = iv .u64 zs ++ [.int .u64 y] by simp [iv]]
  exact hown

set_option maxRecDepth 100000 in
set_option maxHeartbeats 4000000 in
theorem least_law (w : World) (k : Int) (vl : Value) (l : List Int) (hl : RdV w 1 vl l.length (iv .u64 l)) (h1 : 1 ≤ k) (h2 : k < 4294967296) (hn : l.length < 4294967296) :
    Calls Try.prog 28 #[.int .i64 k, vl] w (LeastGives w (Kmv.least k.toNat l)) := by
  have hmade := Own.made w 22 1 0 #[] (by decide) (by simp) (by simp)
  have hl1 := hl.alloc (.cells #[] 22)
  go_enter Try.func28, Try.ntmps28
  go_wp2_with (first
    | (at_builtin; refine wpList_app rfl (.tmp 9) (.tmp 10) 53 rfl 22 1 8 el64 0 l.length [] (iv .u64 l) hmade hl1 (by omega) (by omega) ?_; intro v' w1 hown1 ht1 hb1; rw [Nat.zero_add, List.nil_append] at hown1
       obtain ⟨A, c, rfl, _⟩ := hown1.rd.slice)
    | (go_at_call 45
       refine (sort_any (.slice A l.length c) w1.heap.size l (w1.alloc (.cells #[.slice A l.length c] 53)) (by omega) (fun h => Nat.lt_irrefl _ (hown1.lt _ h)) (cell_cells (heap_new _ _) 0) (hown1.alloc _)).mono ?_
       rintro e W ⟨rfl, htW, hrW⟩
       have LE := Lib.hid (Le.start (b := 0) hown1 ht1 hb1 htW hrW)
       have b0 := LE.out.cell
       clear hown1 ht1 hb1 htW hrW))
  have hys := Kmv.sort_len l
  have HL : Hid ((Kmv.uniq none (Kmv.sort l)).take k.toNat = Kmv.least k.toNat l) := Lib.hid rfl
  generalize Kmv.sort l = ys at LE hys HL
  go_loopw [6, 18] (fun a b wr => ∃ (i : Nat) (zs : List Int), b = .int .i64 i ∧ i ≤ l.length ∧ Hid (zs = (Kmv.uniq none (ys.take i)).take k.toNat) ∧ Le w W wr w1.heap.size (.slice A l.length c) a ys zs) (fun _ b _ => l.length - sint b)
  case atStart => exact ⟨0, [], by simp, by omega, Lib.hid (by simp [Kmv.uniq]), LE.out⟩
  case round =>
    obtain ⟨i, zs, rfl, hi, hz, st⟩ := hrel
    have bx := (st.tr.cell (p := ⟨w1.heap.size, 0, none⟩) (lt_of_cell st.cell) (by simp)).trans st.cell
    clear LE b0
    obtain ⟨A2, c2, rfl, _⟩ := st.own.rd.slice
    by_cases hlt : i < l.length
    · have g := st.rd.keep' st.tr
      rw [hys] at g
      obtain ⟨b, f, c', hv, hc2, hm2, hb2, hcell2⟩ := g.ptr (by omega)
      cases hv
      have hlt' : ((i : Int) < l.length) := by omega
      have c1 := hcell2 i _ (iv_get (by omega))
      have HS := Lib.hid (Kmv.least_step k.toNat ys i (by omega))
      rw [← hz.out] at HS
      have hup : zs.length ≤ k.toNat := by rw [hz.out, List.length_take]; omega
      clear hz g
      by_cases hk : zs.length < k.toNat
      · have d1 : decide ((zs.length : Int) < k) = true := decide_eq_true (by omega)
        cases i with
        | zero =>
          have HT : Hid (zs ++ [ys.getD 0 0] = (Kmv.uniq none (ys.take (0 + 1))).take k.toNat) := Lib.hid (by rw [HS.out, if_pos ⟨hk, .inl rfl⟩])
          rw [Nat.add_zero] at c1
          generalize ys.getD 0 0 = y at c1 HT
          clear HS hcell2
          go_wp2_with (at_builtin; refine wpList_app rfl (.tmp 40) (.tmp 42) 53 rfl 22 1 8 el64 zs.length 1 (iv .u64 zs) [.int .u64 y] (st.own.alloc _) (rd_one _ 22 (.int .u64 y) rfl) (by omega) (by omega) ?_; intro v' w2 hown2 ht2 hb2; have P := Lib.hid (st.push ((Tr.refl [] wr).alloc _) hown2 ht2 hb2); clear hown2 ht2 hb2)
          go_roundw
          case rel => exact ⟨1, zs ++ [y], by simp, by omega, HT, P.out⟩
          case measure => simp only [sint_int]; omega
        | succ j =>
          have c0 := hcell2 j _ (iv_get (by omega))
          have hj0 := succ_ne j
          by_cases hne : ys.getD (j + 1) 0 = ys.getD j 0
          · have HT : Hid (zs = (Kmv.uniq none (ys.take (j + 1 + 1))).take k.toNat) := Lib.hid (by rw [HS.out, if_neg (by rintro ⟨_, h | h⟩; omega; exact h hne), List.append_nil])
            rw [hne] at c1
            generalize ys.getD j 0 = y at c1 c0
            clear HS hcell2 hne
            go_wp2
            go_roundw
            case rel => exact ⟨j + 1 + 1, zs, by simp, by omega, HT, st⟩
            case measure => simp only [sint_int]; omega
          · have HT : Hid (zs ++ [ys.getD (j + 1) 0] = (Kmv.uniq none (ys.take (j + 1 + 1))).take k.toNat) := Lib.hid (by rw [HS.out, if_pos ⟨hk, .inr hne⟩])
            generalize ys.getD (j + 1) 0 = y at c1 HT hne
            generalize ys.getD j 0 = y0 at c0 hne
            have hb : (y == y0) = false := beq_eq_false_iff_ne.2 hne
            clear HS hcell2 hne
            go_wp2_with (at_builtin; refine wpList_app rfl (.tmp 40) (.tmp 42) 53 rfl 22 1 8 el64 zs.length 1 (iv .u64 zs) [.int .u64 y] (st.own.alloc _) (rd_one _ 22 (.int .u64 y) rfl) (by omega) (by omega) ?_; intro v' w2 hown2 ht2 hb2; have P := Lib.hid (st.push ((Tr.refl [] wr).alloc _) hown2 ht2 hb2); clear hown2 ht2 hb2)
            go_roundw
            case rel => exact ⟨j + 1 + 1, zs ++ [y], by simp, by omega, HT, P.out⟩
            case measure => simp only [sint_int]; omega
      · have d1 : decide ((zs.length : Int) < k) = false := decide_eq_false (by omega)
        have HT : Hid (zs = (Kmv.uniq none (ys.take (i + 1))).take k.toNat) := Lib.hid (by rw [HS.out, if_neg (fun h => hk h.1), List.append_nil])
        clear HS hcell2
        generalize ys.getD i 0 = y at c1
        go_wp2
        go_roundw
        case rel => exact ⟨i + 1, zs, by simp, by omega, HT, st⟩
        case measure => simp only [sint_int]; omega
    · obtain rfl : i = l.length := by omega
      have hz' := hz.out
      rw [← hys, List.take_length, HL.out] at hz'
      have D := Lib.hid (show LeastGives w (Kmv.least k.toNat l) (.returned (.slice A2 zs.length c2)) wr from ⟨_, rfl, by rw [← hz']; exact st.own.rd, st.base.trans st.tr (by simp)⟩)
      clear hz hz'
      go_wp2
      go_ret
      exact D.out

end Go.Proofs.Ytncnkfjddolabaa
