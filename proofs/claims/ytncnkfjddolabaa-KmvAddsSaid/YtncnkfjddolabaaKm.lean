/- Walks: kmv. -/
import Derived.Test.YtncnkfjddolabaaProg
import Derived.Test.YtncnkfjddolabaaMem
set_option linter.unusedVariables false
set_option linter.unusedSimpArgs false
namespace Go.Proofs.Ytncnkfjddolabaa
open Go Go.RowKit

theorem el64 : El Try.prog 53 22 1 8 := ⟨by kernel_rfl, by kernel_rfl, by decide⟩
def iv (k : IntKind) (xs : List Int) : List Value := xs.map (Value.int k)
theorem iv_len (k : IntKind) (xs : List Int) : (iv k xs).length = xs.length := by simp [iv]

theorem heap_new' {w : World} {k : Nat} (o : Obj) (h : k = w.heap.size) : (w.alloc o).heap[k]? = some o := by subst h; exact heap_new w o

theorem szA (w : World) (o : Obj) : (w.alloc o).heap.size = w.heap.size + 1 := World.size_alloc w o
theorem succ_ne (n : Nat) : ((n : Int) + 1 == 0) = false := beq_eq_false_iff_ne.2 (by omega)

/-- The union of two rising lists, each once. -/
def Kmv.union : List Int → List Int → List Int
  | [], ys => ys
  | xs, [] => xs
  | x :: xs, y :: ys => if x < y then x :: union xs (y :: ys) else if y < x then y :: union (x :: xs) ys else x :: union xs ys
termination_by xs ys => xs.length + ys.length

theorem Kmv.take_step {U U' out : List Int} {x : Int} {k : Nat} (h : U = x :: U') (hlt : out.length < k) : (out ++ [x]) ++ U'.take (k - (out ++ [x]).length) = out ++ U.take (k - out.length) := by
  subst h
  obtain ⟨d, rfl⟩ : ∃ d, k = out.length + 1 + d := ⟨k - (out.length + 1), by omega⟩
  rw [show out.length + 1 + d - out.length = d + 1 by omega, List.take_succ_cons, List.length_append]
  simp
theorem Kmv.u1 (x : Int) (us : List Int) : union (x :: us) [] = x :: union us [] := by cases us <;> simp [union]
theorem Kmv.u2 (y : Int) (vs : List Int) : union [] (y :: vs) = y :: union [] vs := by simp [union]
theorem Kmv.u3 {x y : Int} (us vs : List Int) (h : x < y) : union (x :: us) (y :: vs) = x :: union us (y :: vs) := by rw [union]; simp [h]
theorem Kmv.u4 {x y : Int} (us vs : List Int) (h : y < x) : union (x :: us) (y :: vs) = y :: union (x :: us) vs := by rw [union]; simp [h, show ¬ x < y by omega]
theorem Kmv.u5 (x : Int) (us vs : List Int) : union (x :: us) (x :: vs) = x :: union us vs := by rw [union]; simp

/-- What a call that makes a new Kmv gives. -/
def Kmv.Gives (w : World) (k : Int) (zs : List Int) (e : Ending) (w' : World) : Prop :=
  ∃ v, e = .returned (.agg #[.int .i64 k, v]) ∧ Own w' 22 1 v zs.length (iv .u64 zs) ∧ Tr [] w w' ∧ ∀ x ∈ ob v, w.heap.size ≤ x

/-- What holds at the head of a round. -/
structure Kmv.St (w wr : World) (k : Int) (vx ov : Value) (out : List Int) : Prop where
  tr : Tr [] w wr
  s : wr.heap[w.heap.size]? = some (.cells #[.int .i64 k, vx] 55 (0, 0))
  r : ∃ c0 c1, wr.heap[w.heap.size + 1 + 1]? = some (.cells #[c0, c1] 55 (0, 0))
  o : wr.heap[w.heap.size + 1 + 1 + 1]? = some (.cells #[.int .i64 k, ov] 55 (0, 0))
  own : Own wr 22 1 ov out.length (iv .u64 out)
  far : ∀ x ∈ ob ov, w.heap.size + 4 ≤ x

theorem Kmv.St.fr {w wr : World} {k : Int} {vx ov : Value} {out : List Int} (h : Kmv.St w wr k vx ov out) (o : Nat) : wr.frozen? ⟨w.heap.size + 1 + 1, o, none⟩ = false := by
  obtain ⟨c0, c1, hr⟩ := h.r
  exact frozen_cells hr o

theorem Kmv.St.done {w wr : World} {k : Int} {vx ov : Value} {out : List Int} (h : Kmv.St w wr k vx ov out) (x y : Value) :
    Own ((wr.setCell ⟨w.heap.size + 1 + 1, 0, none⟩ x).setCell ⟨w.heap.size + 1 + 1, 1, none⟩ y) 22 1 ov out.length (iv .u64 out) ∧
    Tr [] w ((wr.setCell ⟨w.heap.size + 1 + 1, 0, none⟩ x).setCell ⟨w.heap.size + 1 + 1, 1, none⟩ y) ∧ ∀ z ∈ ob ov, w.heap.size ≤ z := by
  refine ⟨h.own.keep (S := [w.heap.size + 1 + 1]) (((Tr.refl _ _).setCell (by simp) _).setCell (by simp) _) (fun z hz => ?_), (h.tr.setCell (.inr (by simp; omega)) _).setCell (.inr (by simp; omega)) _, fun z hz => by have := h.far z hz; omega⟩
  have := h.far z hz
  simp; omega
theorem Kmv.St.mid {w wr w2 w1 : World} {k : Int} {vx ov : Value} {out : List Int} (h : Kmv.St w wr k vx ov out) (h2 : Tr [] wr w2) (ht : Tr (ob ov) w2 w1) :
    w1.heap[w.heap.size + 1 + 1 + 1]? = some (.cells #[.int .i64 k, ov] 55 (0, 0)) := by
  have hs := lt_of_heap h.o
  have h2s := h2.size
  rw [ht.block _ (by omega) (fun hm => by have := h.far _ hm; omega), h2.block _ (by omega) (by simp)]
  exact h.o
theorem Kmv.St.push {w wr w2 w1 : World} {k : Int} {vx ov v' : Value} {out : List Int} (h : Kmv.St w wr k vx ov out) (x : Int) (h2 : Tr [] wr w2) (hown : Own w1 22 1 v' (out.length + 1) (iv .u64 out ++ [.int .u64 x]))
    (ht : Tr (ob ov) w2 w1) (hb : ∀ z ∈ ob v', z ∈ ob ov ∨ w2.heap.size ≤ z) : Kmv.St w (w1.setCell ⟨w.heap.size + 1 + 1 + 1, 1, none⟩ v') k vx v' (out ++ [x]) := by
  have hs := lt_of_heap h.o
  have h2s := h2.size
  have fo : ∀ z ∈ ob v', w.heap.size + 4 ≤ z := fun z hz => (hb z hz).elim (h.far z) (by omega)
  have keep : ∀ {b : Nat} {o : Obj}, b < w.heap.size + 4 → wr.heap[b]? = some o → w1.heap[b]? = some o := fun {b o} hb he => by
    rw [ht.block b (by omega) (fun hm => by have := h.far b hm; omega), h2.block b (by omega) (by simp)]
    exact he
  refine ⟨?_, ?_, ?_, ?_, ?_, fo⟩
  · exact ((h.tr.trans h2 (by simp)).trans ht (fun z hz => .inr (by have := h.far z hz; omega))).setCell (.inr (by simp; omega)) _
  · rw [heap_setCell_ne (by simp; omega)]; exact keep (by omega) h.s
  · obtain ⟨c0, c1, hr⟩ := h.r
    exact ⟨c0, c1, by rw [heap_setCell_ne (by simp)]; exact keep (by omega) hr⟩
  · exact heap_setCell (keep (by omega) h.o) v'
  · have e : (out ++ [x]).length = out.length + 1 := by simp
    have e2 : iv .u64 (out ++ [x]) = iv .u64 out ++ [.int .u64 x] := by simp [iv]
    rw [e, e2]
    exact hown.keep (S := [w.heap.size + 1 + 1 + 1]) ((Tr.refl _ _).setCell (by simp) _) (fun z hz => by have := fo z hz; simp; omega)

set_option maxRecDepth 100000 in
set_option maxHeartbeats 8000000 in
theorem kmv_merge (w : World) (k k2 : Int) (vx vy : Value) (xs ys : List Int) (hx : RdV w 1 vx xs.length (iv .u64 xs)) (hy : RdV w 1 vy ys.length (iv .u64 ys)) (hk : k < 4294967296) (h0 : 0 ≤ k)
    (hxl : xs.length < 4294967296) (hyl : ys.length < 4294967296) :
    Calls Try.prog 66 #[.agg #[.int .i64 k, vx], .agg #[.int .i64 k2, vy]] w (Kmv.Gives w k ((Kmv.union xs ys).take k.toNat)) := by
  go_enter Try.func66, Try.ntmps66
  go_wp2
  go_quiet (fail)
  go_wp2
  go_loopw [6, 7] (fun a b wr => ∃ (us vs out : List Int) (ov : Value), RdV w 1 a us.length (iv .u64 us) ∧ RdV w 1 b vs.length (iv .u64 vs) ∧ us.length ≤ xs.length ∧ vs.length ≤ ys.length ∧ Kmv.St w wr k vx ov out ∧
      (out.length : Int) ≤ k ∧ out ++ (Kmv.union us vs).take (k.toNat - out.length) = (Kmv.union xs ys).take k.toNat)
    (fun a b _ => slen a + slen b)
  case atStart =>
    refine ⟨xs, ys, [], .slice none 0 0, hx, hy, Nat.le_refl _, Nat.le_refl _, ⟨?_, ?_, ?_, ?_, ?_, ?_⟩, by simpa using h0, by simp⟩
    · exact ((((Tr.refl [] w).alloc _).alloc _).alloc _).alloc _ |>.drewN _
    · exact heap_old _ (heap_old _ (heap_old _ (heap_new _ _)))
    · exact ⟨_, _, heap_old _ (heap_new' (w := (w.alloc _).alloc _) _ (by rw [szA, szA]))⟩
    · exact heap_new' (w := ((w.alloc _).alloc _).alloc _) _ (by rw [szA, szA, szA])
    · exact Own.nil _ _ _
    · simp [ob, Value.ownBlock]
  case round =>
    obtain ⟨us, vs, out, ov, ha, hb, hla, hlb, st, hol, heq⟩ := hrel
    obtain ⟨A, c, rfl, hoc⟩ := st.own.rd.slice
    have cO := cell_cells st.o 1
    have cS := cell_cells st.s 0
    have cO0 := cell_cells st.o 0
    obtain ⟨r0, r1, hr⟩ := st.r
    have cR0 := cell_cells hr 0
    have cR1 := cell_cells hr 1
    have fR0 := st.fr 0
    have fR1 := st.fr 1
    have fO1 := frozen_cells st.o 1
    simp at cO cS cO0 cR0 cR1
    clear hr
    have H := Lib.hid heq
    clear heq
    rcases (show ¬ (out.length : Int) < k ∨ ((out.length : Int) < k ∧ us = [] ∧ vs = []) ∨ ((out.length : Int) < k ∧ 0 < us.length + vs.length) by
      by_cases h : (out.length : Int) < k
      · cases us <;> cases vs <;> simp [h] <;> omega
      · exact .inl h) with hge | ⟨hlt, rfl, rfl⟩ | ⟨hlt, hne⟩
    · obtain ⟨A1, c1, rfl, _⟩ := ha.slice
      obtain ⟨A2, c2, rfl, _⟩ := hb.slice
      go_wp2
      have D := st.done (.int .i64 k) (.slice A out.length c)
      refine bodyPost_ret (v := .agg #[.int .i64 k, .slice A out.length c]) (by simp [results, Try.results66, go_sem, cR0, cR1]) rfl ?_
      rw [← H.out, show k.toNat - out.length = 0 by omega, List.take_zero, List.append_nil]
      exact ⟨_, rfl, D⟩
    · obtain ⟨A1, c1, rfl, _⟩ := ha.slice
      obtain ⟨A2, c2, rfl, _⟩ := hb.slice
      go_wp2
      have D := st.done (.int .i64 k) (.slice A out.length c)
      refine bodyPost_ret (v := .agg #[.int .i64 k, .slice A out.length c]) (by simp [results, Try.results66, go_sem, cR0, cR1]) rfl ?_
      rw [← H.out]; simp only [Kmv.union, List.take_nil, List.append_nil]
      exact ⟨_, rfl, D⟩
    · cases us with
      | nil =>
        obtain ⟨A1, c1, rfl, _⟩ := ha.slice
        cases vs with
        | nil => simp at hne
        | cons y vs =>
          obtain ⟨b2, f2, c2, rfl, hc2, hm2, hb2, hcell2⟩ := hb.ptr (by simp)
          obtain ⟨vb', hb', hsb⟩ := hb.tail el64
          simp only [List.length_cons] at hlb hb hsb
          have hv1 : vs.length + 1 < 4294967296 := by omega
          have hz := succ_ne vs.length
          have cb : wr.cell? ⟨b2, f2, none⟩ = some (.int .u64 y) := (st.tr.cell (p := ⟨b2, f2, none⟩) hb2 (by simp)).trans (hcell2 0 _ rfl)
          clear hcell2
          have EQ := Lib.hid (Kmv.take_step (k := k.toNat) (out := out) (Kmv.u2 y vs) (by omega))
          go_wp2
          go_quiet (fail)
          go_wp2
          go_quiet (fail)
          go_wp2
          have rdx := fun n => rd_one (wr.drewN n) 22 (.int .u64 y) rfl
          refine Dr.wp_region_text (by kernel_rfl) (by kernel_rfl) ?_
          iterate 6 (refine wpT_plain rfl (by first | exact True.intro | exact ⟨rfl, rfl⟩ | exact rfl | exact ⟨_, rfl⟩ | exact ⟨_, _, rfl, by first | assumption | (simp [*]; done)⟩) (fun _ _ => ?_); go_wp2)
          refine wpT_plain rfl True.intro (fun _ _ => ?_)
          refine wp_app (.tmp 83) (.tmp 87) 53 rfl 22 1 8 el64 out.length 1 (iv .u64 out) [.int .u64 y] (st.own.keep' (((Tr.refl [] wr).drewN _).alloc _)) (rdx _) (by omega) (by omega) ?_
          intro v' w1 hown1 ht1 hb1
          have hmid := st.mid (((Tr.refl [] wr).drewN _).alloc _) ht1
          have HP := Lib.hid (st.push y (((Tr.refl [] wr).drewN _).alloc _) hown1 ht1 hb1)
          obtain ⟨g', cap', rfl, _, _, _⟩ := hown1.form (by omega)
          have cO1 := cell_cells hmid 1
          have fO1 := frozen_cells hmid 1
          simp at cO1
          clear cO cS cO0 cR0 cR1 fR0 fR1 hown1 ht1 hb1 hmid rdx
          go_wp2
          repeat (refine wpT_plain rfl (by first | exact True.intro | exact ⟨rfl, rfl⟩ | exact rfl | exact ⟨_, rfl⟩ | exact ⟨_, _, rfl, by first | assumption | (simp [*]; done)⟩) (fun _ _ => ?_); go_wp2)
          refine wpT_nil ?_
          go_wp2
          go_roundw
          case rel =>
            refine ⟨[], vs, out ++ [y], _, ha, hb', hla, by omega, HP.out, by simp; omega, ?_⟩
            rw [← H.out]
            exact EQ.out
          case measure => rw [hb'.slen_eq]; simp [slen]
      | cons x us =>
        obtain ⟨b1, f1, c1, rfl, hc1, hm1, hb1, hcell1⟩ := ha.ptr (by simp)
        obtain ⟨va', ha', hsa⟩ := ha.tail el64
        simp only [List.length_cons] at hla ha hsa
        have hu1 : us.length + 1 < 4294967296 := by omega
        have ca : wr.cell? ⟨b1, f1, none⟩ = some (.int .u64 x) := (st.tr.cell (p := ⟨b1, f1, none⟩) hb1 (by simp)).trans (hcell1 0 _ rfl)
        clear hcell1
        cases vs with
        | cons y vs =>
          obtain ⟨b2, f2, c2, rfl, hc2, hm2, hb2, hcell2⟩ := hb.ptr (by simp)
          obtain ⟨vb', hb', hsb⟩ := hb.tail el64
          simp only [List.length_cons] at hlb hb hsb
          have hv1 : vs.length + 1 < 4294967296 := by omega
          have hz := succ_ne vs.length
          have cb : wr.cell? ⟨b2, f2, none⟩ = some (.int .u64 y) := (st.tr.cell (p := ⟨b2, f2, none⟩) hb2 (by simp)).trans (hcell2 0 _ rfl)
          clear hcell2
          rcases Int.lt_trichotomy x y with hxy | rfl | hxy
          · have EQ := Lib.hid (Kmv.take_step (k := k.toNat) (out := out) (Kmv.u3 us vs hxy) (by omega))
            go_wp2
            go_quiet (fail)
            go_wp2
            have rdx := fun n => rd_one (wr.drewN n) 22 (.int .u64 x) rfl
            refine Dr.wp_region_text (by kernel_rfl) (by kernel_rfl) ?_
            iterate 6 (refine wpT_plain rfl (by first | exact True.intro | exact ⟨rfl, rfl⟩ | exact rfl | exact ⟨_, rfl⟩ | exact ⟨_, _, rfl, by first | assumption | (simp [*]; done)⟩) (fun _ _ => ?_); go_wp2)
            refine wpT_plain rfl True.intro (fun _ _ => ?_)
            refine wp_app (.tmp 60) (.tmp 64) 53 rfl 22 1 8 el64 out.length 1 (iv .u64 out) [.int .u64 x] (st.own.keep' (((Tr.refl [] wr).drewN _).alloc _)) (rdx _) (by omega) (by omega) ?_
            intro v' w1 hown1 ht1 hb1
            have hmid := st.mid (((Tr.refl [] wr).drewN _).alloc _) ht1
            have HP := Lib.hid (st.push x (((Tr.refl [] wr).drewN _).alloc _) hown1 ht1 hb1)
            obtain ⟨g', cap', rfl, _, _, _⟩ := hown1.form (by omega)
            have cO1 := cell_cells hmid 1
            have fO1 := frozen_cells hmid 1
            simp at cO1
            clear cO cS cO0 cR0 cR1 fR0 fR1 hown1 ht1 hb1 hmid rdx
            go_wp2
            repeat (refine wpT_plain rfl (by first | exact True.intro | exact ⟨rfl, rfl⟩ | exact rfl | exact ⟨_, rfl⟩ | exact ⟨_, _, rfl, by first | assumption | (simp [*]; done)⟩) (fun _ _ => ?_); go_wp2)
            refine wpT_nil ?_
            go_wp2
            go_roundw
            case rel =>
              refine ⟨us, y :: vs, out ++ [x], _, ha', hb, by omega, hlb, HP.out, by simp; omega, ?_⟩
              rw [← H.out]
              exact EQ.out
            case measure => rw [ha'.slen_eq]; simp [slen]
          · have EQ := Lib.hid (Kmv.take_step (k := k.toNat) (out := out) (Kmv.u5 x us vs) (by omega))
            have hxx : ¬ x < x := by omega
            go_wp2
            go_quiet (fail)
            go_wp2
            go_quiet (fail)
            go_wp2
            have rdx := fun n => rd_one (wr.drewN n) 22 (.int .u64 x) rfl
            refine Dr.wp_region_text (by kernel_rfl) (by kernel_rfl) ?_
            iterate 6 (refine wpT_plain rfl (by first | exact True.intro | exact ⟨rfl, rfl⟩ | exact rfl | exact ⟨_, rfl⟩ | exact ⟨_, _, rfl, by first | assumption | (simp [*]; done)⟩) (fun _ _ => ?_); go_wp2)
            refine wpT_plain rfl True.intro (fun _ _ => ?_)
            refine wp_app (.tmp 30) (.tmp 34) 53 rfl 22 1 8 el64 out.length 1 (iv .u64 out) [.int .u64 x] (st.own.keep' (((Tr.refl [] wr).drewN _).alloc _)) (rdx _) (by omega) (by omega) ?_
            intro v' w1 hown1 ht1 hb1
            have hmid := st.mid (((Tr.refl [] wr).drewN _).alloc _) ht1
            have HP := Lib.hid (st.push x (((Tr.refl [] wr).drewN _).alloc _) hown1 ht1 hb1)
            obtain ⟨g', cap', rfl, _, _, _⟩ := hown1.form (by omega)
            have cO1 := cell_cells hmid 1
            have fO1 := frozen_cells hmid 1
            simp at cO1
            clear cO cS cO0 cR0 cR1 fR0 fR1 hown1 ht1 hb1 hmid rdx
            go_wp2
            repeat (refine wpT_plain rfl (by first | exact True.intro | exact ⟨rfl, rfl⟩ | exact rfl | exact ⟨_, rfl⟩ | exact ⟨_, _, rfl, by first | assumption | (simp [*]; done)⟩) (fun _ _ => ?_); go_wp2)
            refine wpT_nil ?_
            go_wp2
            go_roundw
            case rel =>
              refine ⟨us, vs, out ++ [x], _, ha', hb', by omega, by omega, HP.out, by simp; omega, ?_⟩
              rw [← H.out]
              exact EQ.out
            case measure => rw [ha'.slen_eq, hb'.slen_eq]; simp [slen]; omega
          · have EQ := Lib.hid (Kmv.take_step (k := k.toNat) (out := out) (Kmv.u4 us vs hxy) (by omega))
            have hxx : decide (x < y) = false := decide_eq_false (by omega)
            go_wp2
            go_quiet (fail)
            go_wp2
            go_quiet (fail)
            go_wp2
            have rdx := fun n => rd_one (wr.drewN n) 22 (.int .u64 y) rfl
            refine Dr.wp_region_text (by kernel_rfl) (by kernel_rfl) ?_
            iterate 6 (refine wpT_plain rfl (by first | exact True.intro | exact ⟨rfl, rfl⟩ | exact rfl | exact ⟨_, rfl⟩ | exact ⟨_, _, rfl, by first | assumption | (simp [*]; done)⟩) (fun _ _ => ?_); go_wp2)
            refine wpT_plain rfl True.intro (fun _ _ => ?_)
            refine wp_app (.tmp 83) (.tmp 87) 53 rfl 22 1 8 el64 out.length 1 (iv .u64 out) [.int .u64 y] (st.own.keep' (((Tr.refl [] wr).drewN _).alloc _)) (rdx _) (by omega) (by omega) ?_
            intro v' w1 hown1 ht1 hb1
            have hmid := st.mid (((Tr.refl [] wr).drewN _).alloc _) ht1
            have HP := Lib.hid (st.push y (((Tr.refl [] wr).drewN _).alloc _) hown1 ht1 hb1)
            obtain ⟨g', cap', rfl, _, _, _⟩ := hown1.form (by omega)
            have cO1 := cell_cells hmid 1
            have fO1 := frozen_cells hmid 1
            simp at cO1
            clear cO cS cO0 cR0 cR1 fR0 fR1 hown1 ht1 hb1 hmid rdx
            go_wp2
            repeat (refine wpT_plain rfl (by first | exact True.intro | exact ⟨rfl, rfl⟩ | exact rfl | exact ⟨_, rfl⟩ | exact ⟨_, _, rfl, by first | assumption | (simp [*]; done)⟩) (fun _ _ => ?_); go_wp2)
            refine wpT_nil ?_
            go_wp2
            go_roundw
            case rel =>
              refine ⟨x :: us, vs, out ++ [y], _, ha, hb', hla, by omega, HP.out, by simp; omega, ?_⟩
              rw [← H.out]
              exact EQ.out
            case measure => rw [hb'.slen_eq]; simp [slen]
        | nil =>
          obtain ⟨A2, c2, rfl, _⟩ := hb.slice
          have EQ := Lib.hid (Kmv.take_step (k := k.toNat) (out := out) (Kmv.u1 x us) (by omega))
          go_wp2
          go_quiet (fail)
          go_wp2
          have rdx := fun n => rd_one (wr.drewN n) 22 (.int .u64 x) rfl
          refine Dr.wp_region_text (by kernel_rfl) (by kernel_rfl) ?_
          iterate 6 (refine wpT_plain rfl (by first | exact True.intro | exact ⟨rfl, rfl⟩ | exact rfl | exact ⟨_, rfl⟩ | exact ⟨_, _, rfl, by first | assumption | (simp [*]; done)⟩) (fun _ _ => ?_); go_wp2)
          refine wpT_plain rfl True.intro (fun _ _ => ?_)
          refine wp_app (.tmp 60) (.tmp 64) 53 rfl 22 1 8 el64 out.length 1 (iv .u64 out) [.int .u64 x] (st.own.keep' (((Tr.refl [] wr).drewN _).alloc _)) (rdx _) (by omega) (by omega) ?_
          intro v' w1 hown1 ht1 hb1
          have hmid := st.mid (((Tr.refl [] wr).drewN _).alloc _) ht1
          have HP := Lib.hid (st.push x (((Tr.refl [] wr).drewN _).alloc _) hown1 ht1 hb1)
          obtain ⟨g', cap', rfl, _, _, _⟩ := hown1.form (by omega)
          have cO1 := cell_cells hmid 1
          have fO1 := frozen_cells hmid 1
          simp at cO1
          clear cO cS cO0 cR0 cR1 fR0 fR1 hown1 ht1 hb1 hmid rdx
          go_wp2
          repeat (refine wpT_plain rfl (by first | exact True.intro | exact ⟨rfl, rfl⟩ | exact rfl | exact ⟨_, rfl⟩ | exact ⟨_, _, rfl, by first | assumption | (simp [*]; done)⟩) (fun _ _ => ?_); go_wp2)
          refine wpT_nil ?_
          go_wp2
          go_roundw
          case rel =>
            refine ⟨us, [], out ++ [x], _, ha', hb, by omega, hlb, HP.out, by simp; omega, ?_⟩
            rw [← H.out]
            exact EQ.out
          case measure => rw [ha'.slen_eq]; simp [slen]
end Go.Proofs.Ytncnkfjddolabaa
