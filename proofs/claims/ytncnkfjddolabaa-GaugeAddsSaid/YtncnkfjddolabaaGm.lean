/- Walks: gauge.Merge. -/
import Derived.Test.YtncnkfjddolabaaGs
import Derived.Test.YtncnkfjddolabaaDr4
import Derived.Shelf.Abstract
set_option linter.unusedVariables false
set_option linter.unusedSimpArgs false
namespace Go.Proofs.Ytncnkfjddolabaa
open Go Go.RowKit Go.Shelf

theorem elF : El Try.prog 35 24 1 8 := ⟨by kernel_rfl, by kernel_rfl, by decide⟩

/-- Two rows as one: the second's where it is less. -/
def Gg.merge : List Nat → List Nat → List Nat
  | [], ys => ys
  | xs, [] => xs
  | x :: xs, y :: ys => if Fl.keyT y < Fl.keyT x then y :: merge (x :: xs) ys else x :: merge xs (y :: ys)
termination_by xs ys => xs.length + ys.length
theorem Gg.m1 (x : Nat) (us : List Nat) : merge (x :: us) [] = x :: merge us [] := by cases us <;> simp [merge]
theorem Gg.m2 (y : Nat) (vs : List Nat) : merge [] (y :: vs) = y :: merge [] vs := by simp [merge]
theorem Gg.m3 {x y : Nat} (us vs : List Nat) (h : ¬ Fl.keyT y < Fl.keyT x) : merge (x :: us) (y :: vs) = x :: merge us (y :: vs) := by rw [merge]; simp [h]
theorem Gg.m4 {x y : Nat} (us vs : List Nat) (h : Fl.keyT y < Fl.keyT x) : merge (x :: us) (y :: vs) = y :: merge (x :: us) vs := by rw [merge]; simp [h]
theorem Gg.take_step {U U' out : List Nat} {x : Nat} {k : Nat} (h : U = x :: U') (hlt : out.length < k) : (out ++ [x]) ++ U'.take (k - (out ++ [x]).length) = out ++ U.take (k - out.length) := by
  subst h
  obtain ⟨d, rfl⟩ : ∃ d, k = out.length + 1 + d := ⟨k - (out.length + 1), by omega⟩
  rw [show out.length + 1 + d - out.length = d + 1 by omega, List.take_succ_cons, List.length_append]
  simp

theorem succ_nz (n : Nat) : ((n : Int) + 1 == 0) = false := beq_eq_false_iff_ne.2 (by omega)
def gint : Value → Nat
  | .int _ n => n.toNat
  | _ => 0
/-- A gauge's numbers. -/
structure Gn where
  many : Int
  e0 : Int
  e1 : Int
  e2 : Int
  e3 : Int
  e4 : Int
  e5 : Int
  lo : Nat
  hi : Nat
abbrev Gn.val (x : Gn) (k : Int) (v : Value) : Array Value := Gv k x.many x.e0 x.e1 x.e2 x.e3 x.e4 x.e5 x.lo x.hi v
def u32 (a : Int) : Prop := 0 ≤ a ∧ a < 4294967296
def Gn.Ok (x : Gn) : Prop := u32 x.many ∧ u32 x.e0 ∧ u32 x.e1 ∧ u32 x.e2 ∧ u32 x.e3 ∧ u32 x.e4 ∧ u32 x.e5
def Gn.join (x y : Gn) : Gn := ⟨plus x.many y.many, plus x.e0 y.e0, plus x.e1 y.e1, plus x.e2 y.e2, plus x.e3 y.e3, plus x.e4 y.e4, plus x.e5 y.e5, Fl.minT x.lo y.lo, Fl.maxT x.hi y.hi⟩
theorem plus_u32 {a b : Int} (ha : u32 a) (hb : u32 b) : u32 (plus a b) := plus_range ha.1 hb.1
theorem Gn.join_ok {x y : Gn} (hx : x.Ok) (hy : y.Ok) : (x.join y).Ok :=
  ⟨plus_u32 hx.1 hy.1, plus_u32 hx.2.1 hy.2.1, plus_u32 hx.2.2.1 hy.2.2.1, plus_u32 hx.2.2.2.1 hy.2.2.2.1, plus_u32 hx.2.2.2.2.1 hy.2.2.2.2.1, plus_u32 hx.2.2.2.2.2.1 hy.2.2.2.2.2.1, plus_u32 hx.2.2.2.2.2.2 hy.2.2.2.2.2.2⟩

/-- What a call that makes a new gauge gives. -/
def Gg.Gives (w : World) (k : Int) (x : Gn) (zs : List Nat) (e : Ending) (w' : World) : Prop :=
  ∃ v, e = .returned (.agg (x.val k v)) ∧ Own w' 24 1 v zs.length (fv zs) ∧ Tr [] w w' ∧ ∀ x ∈ ob v, w.heap.size ≤ x

theorem plus_q (a b : Int) (ha : u32 a) (hb : u32 b) (w : World) (n : Nat) :
    Calls Try.prog 70 #[.int .u32 a, .int .u32 b] (w.drewN n) fun e w' => e = .returned (.int .u32 (plus a b)) ∧ ∃ m, w' = w.drewN m :=
  (plus_any a b ha.1 ha.2 hb.1 hb.2 _).mono fun _ _ ⟨h, e⟩ => ⟨h, n, e.symm⟩
theorem min_q (a b : Nat) (w : World) (n : Nat) : Calls Try.prog 71 #[.float .f64 a, .float .f64 b] (w.drewN n) fun e w' => e = .returned (.float .f64 (Fl.minT a b)) ∧ ∃ m, w' = w.drewN m :=
  (min_any a b _).mono fun _ _ ⟨h, e⟩ => ⟨h, n, e.symm⟩
theorem max_q (a b : Nat) (w : World) (n : Nat) : Calls Try.prog 72 #[.float .f64 a, .float .f64 b] (w.drewN n) fun e w' => e = .returned (.float .f64 (Fl.maxT a b)) ∧ ∃ m, w' = w.drewN m :=
  (max_any a b _).mono fun _ _ ⟨h, e⟩ => ⟨h, n, e.symm⟩
theorem less_q (a b : Nat) (w : World) (n : Nat) : Calls Try.prog 30 #[.float .f64 a, .float .f64 b] (w.drewN n) fun e w' => e = .returned (.bool (decide (Fl.keyT a < Fl.keyT b))) ∧ ∃ m, w' = w.drewN m :=
  (less_any a b _).mono fun _ _ ⟨h, e⟩ => ⟨h, n, e.symm⟩

/-- The calls that touch no memory, and what they answer. -/
def spOf (n : Nat) (args : Array Value) : Value :=
  match args with
  | #[.int _ a, .int _ b] => .int .u32 (plus a b)
  | #[.float _ a, .float _ b] => if n = 71 then .float .f64 (Fl.minT a b) else if n = 72 then .float .f64 (Fl.maxT a b) else .bool (decide (Fl.keyT a < Fl.keyT b))
  | _ => undef
def PSp : Dq.PS := ⟨fun n => n == 70 || n == 71 || n == 72 || n == 30, spOf, fun n => n == 53⟩

/-- What holds at the head of a round of Merge. -/
structure Gg.St (w wr : World) (k k2 : Int) (x y z : Gn) (vx vy ov : Value) (out : List Nat) : Prop where
  tr : Tr [] w wr
  s : wr.heap[w.heap.size]? = some (.cells (x.val k vx) 37 (0, 0))
  y : wr.heap[w.heap.size + 1]? = some (.cells (y.val k2 vy) 37 (0, 0))
  r : ∃ z v, wr.heap[w.heap.size + 1 + 1]? = some (.cells (Gn.val z 0 v) 37 (0, 0))
  o : wr.heap[w.heap.size + 1 + 1 + 1]? = some (.cells (z.val k ov) 37 (0, 0))
  own : Own wr 24 1 ov out.length (fv out)
  far : ∀ x ∈ ob ov, w.heap.size + 4 ≤ x

def Gn.part (x y : Gn) (i : Nat) : Gn := ⟨plus x.many y.many, if 0 < i then plus x.e0 y.e0 else 0, if 1 < i then plus x.e1 y.e1 else 0, if 2 < i then plus x.e2 y.e2 else 0, if 3 < i then plus x.e3 y.e3 else 0,
  if 4 < i then plus x.e4 y.e4 else 0, if 5 < i then plus x.e5 y.e5 else 0, Fl.minT x.lo y.lo, Fl.maxT x.hi y.hi⟩
theorem Gn.part_all (x y : Gn) : Gn.part x y 6 = x.join y := rfl

theorem Gg.St.fr {w wr : World} {k k2 : Int} {x y z : Gn} {vx vy ov : Value} {out : List Nat} (h : Gg.St w wr k k2 x y z vx vy ov out) (o : Nat) : wr.frozen? ⟨w.heap.size + 1 + 1, o, none⟩ = false := by
  obtain ⟨z, v, hr⟩ := h.r
  exact frozen_cells hr o
theorem Gg.St.edge {w wr : World} {k k2 : Int} {x y z z' : Gn} {vx vy ov : Value} {out : List Nat} (h : Gg.St w wr k k2 x y z vx vy ov out) (i : Nat) (v : Int) (n : Nat) (hz : (z.val k ov).setIfInBounds (2 + i) (.int .u32 v) = z'.val k ov) :
    Gg.St w ((wr.drewN n).setCell ⟨w.heap.size + 1 + 1 + 1, 2 + i, none⟩ (.int .u32 v)) k k2 x y z' vx vy ov out := by
  have ne : ∀ b o, b < w.heap.size + 1 + 1 + 1 → wr.heap[b]? = some o → ((wr.drewN n).setCell ⟨w.heap.size + 1 + 1 + 1, 2 + i, none⟩ (.int .u32 v)).heap[b]? = some o := fun b o hb he => by
    rw [heap_setCell_ne (by simp; omega)]; exact he
  refine ⟨(h.tr.drewN n).setCell (.inr (by simp; omega)) _, ne _ _ (by omega) h.s, ne _ _ (by omega) h.y, ?_, ?_, ?_, h.far⟩
  · obtain ⟨z, v, hr⟩ := h.r
    exact ⟨z, v, ne _ _ (by omega) hr⟩
  · rw [← hz]; exact heap_setCell (w := wr.drewN n) h.o _
  · exact h.own.keep (S := [w.heap.size + 1 + 1 + 1]) (((Tr.refl _ _).drewN n).setCell (by simp) _) (fun z hz => by have := h.far z hz; simp; omega)
theorem Gg.St.mid {w wr w2 w1 : World} {k k2 : Int} {x y z : Gn} {vx vy ov : Value} {out : List Nat} (h : Gg.St w wr k k2 x y z vx vy ov out) (h2 : Tr [] wr w2) (ht : Tr (ob ov) w2 w1) :
    w1.heap[w.heap.size + 1 + 1 + 1]? = some (.cells (z.val k ov) 37 (0, 0)) := by
  have hs := lt_of_heap h.o
  have h2s := h2.size
  rw [ht.block _ (by omega) (fun hm => by have := h.far _ hm; omega), h2.block _ (by omega) (by simp)]
  exact h.o
theorem Gg.St.push {w wr w2 w1 : World} {k k2 : Int} {x y z : Gn} {vx vy ov v' : Value} {out : List Nat} (h : Gg.St w wr k k2 x y z vx vy ov out) (f : Nat) (h2 : Tr [] wr w2) (hown : Own w1 24 1 v' (out.length + 1) (fv out ++ [.float .f64 f]))
    (ht : Tr (ob ov) w2 w1) (hb : ∀ z ∈ ob v', z ∈ ob ov ∨ w2.heap.size ≤ z) : Gg.St w (w1.setCell ⟨w.heap.size + 1 + 1 + 1, 10, none⟩ v') k k2 x y z vx vy v' (out ++ [f]) := by
  have hs := lt_of_heap h.o
  have h2s := h2.size
  have fo : ∀ z ∈ ob v', w.heap.size + 4 ≤ z := fun z hz => (hb z hz).elim (h.far z) (by omega)
  have keep : ∀ {b : Nat} {o : Obj}, b < w.heap.size + 4 → wr.heap[b]? = some o → w1.heap[b]? = some o := fun {b o} hb he => by
    rw [ht.block b (by omega) (fun hm => by have := h.far b hm; omega), h2.block b (by omega) (by simp)]
    exact he
  refine ⟨?_, ?_, ?_, ?_, ?_, ?_, fo⟩
  · exact ((h.tr.trans h2 (by simp)).trans ht (fun z hz => .inr (by have := h.far z hz; omega))).setCell (.inr (by simp; omega)) _
  · rw [heap_setCell_ne (by simp; omega)]; exact keep (by omega) h.s
  · rw [heap_setCell_ne (by simp)]; exact keep (by omega) h.y
  · obtain ⟨z, v, hr⟩ := h.r
    exact ⟨z, v, by rw [heap_setCell_ne (by simp)]; exact keep (by omega) hr⟩
  · exact heap_setCell (keep (by omega) h.o) v'
  · have e : (out ++ [f]).length = out.length + 1 := by simp
    have e2 : fv (out ++ [f]) = fv out ++ [.float .f64 f] := by simp [fv]
    rw [e, e2]
    exact hown.keep (S := [w.heap.size + 1 + 1 + 1]) ((Tr.refl _ _).setCell (by simp) _) (fun z hz => by have := fo z hz; simp; omega)
/-- The result's cells written. -/
theorem Gg.St.done {w wr w5 : World} {k k2 : Int} {x y z : Gn} {vx vy ov : Value} {out : List Nat} (h : Gg.St w wr k k2 x y z vx vy ov out) (ht : Tr [w.heap.size + 1 + 1] wr w5) :
    Own w5 24 1 ov out.length (fv out) ∧ Tr [] w w5 ∧ ∀ z ∈ ob ov, w.heap.size ≤ z :=
  ⟨h.own.keep ht (fun z hz => by have := h.far z hz; simp; omega), h.tr.trans ht (fun z hz => .inr (by simp at hz; omega)), fun z hz => by have := h.far z hz; omega⟩

set_option maxRecDepth 100000 in
set_option maxHeartbeats 16000000 in
theorem gauge_merge (w : World) (k k2 : Int) (x y : Gn) (hX : x.Ok) (hY : y.Ok) (vx vy : Value) (xs ys : List Nat) (hx : RdV w 1 vx xs.length (fv xs)) (hy : RdV w 1 vy ys.length (fv ys)) (hk : k < 4294967296) (h0 : 0 ≤ k)
    (hxl : xs.length < 4294967296) (hyl : ys.length < 4294967296) :
    Calls Try.prog 52 #[.agg (x.val k vx), .agg (y.val k2 vy)] w (Gg.Gives w k (x.join y) ((Gg.merge xs ys).take k.toNat)) := by
  have sf := store_f
  obtain ⟨X0, X1, X2, X3, X4, X5, X6⟩ := hX
  obtain ⟨Y0, Y1, Y2, Y3, Y4, Y5, Y6⟩ := hY
  go_enter Try.func52, Try.ntmps52
  go_wp2
  obtain ⟨W, hW⟩ : ∃ W, W = ((w.alloc (.cells (x.val k vx) 37)).alloc (.cells (y.val k2 vy) 37)).alloc (.cells (Gv 0 0 0 0 0 0 0 0 0 0 (.slice none 0 0)) 37) := ⟨_, rfl⟩
  rw [← hW]
  have ht : Tr [] w W := by rw [hW]; exact (((Tr.refl [] w).alloc _).alloc _).alloc _
  have hz : W.heap.size = w.heap.size + 1 + 1 + 1 := by rw [hW, szB, szB, szB]
  have s0 : W.heap[w.heap.size]? = some (.cells (x.val k vx) 37 (0, 0)) := by rw [hW]; exact heap_old _ (heap_old _ (heap_new _ _))
  have s1 : W.heap[w.heap.size + 1]? = some (.cells (y.val k2 vy) 37 (0, 0)) := by rw [hW]; exact heap_old _ (heap_at _ (by rw [szB]))
  have s2 : W.heap[w.heap.size + 1 + 1]? = some (.cells (Gv 0 0 0 0 0 0 0 0 0 0 (.slice none 0 0)) 37 (0, 0)) := by rw [hW]; exact heap_at _ (by rw [szB, szB])
  clear hW
  have a0 := cell_cells s0 0
  have a1 := cell_cells s0 1
  have a8 := cell_cells s0 8
  have a9 := cell_cells s0 9
  have b1 := cell_cells s1 1
  have b8 := cell_cells s1 8
  have b9 := cell_cells s1 9
  simp at a0 a1 a8 a9 b1 b8 b9
  have HZ := Lib.hid hz
  have HS := Lib.hid (And.intro s0 (And.intro s1 s2))
  clear s0 s1 s2
  refine Dq.wp_region_text PSp (by kernel_rfl) (by kernel_rfl) ?_
  iterate 6 (refine Dq.wpT_plain rfl rfl (by first | exact True.intro | exact ⟨rfl, rfl⟩ | exact rfl | exact ⟨_, rfl⟩ | exact ⟨_, _, rfl, by first | assumption | (simp [*]; done)⟩) (fun _ _ => ?_); go_wp2)
  refine Dq.wpT_pure rfl rfl (enters_of Try.func70 (by kernel_rfl) rfl) #[.int .u32 x.many, .int .u32 y.many] (.int .u32 (plus x.many y.many)) (by simp [Act.eval]) rfl (plus_any _ _ X0.1 X0.2 Y0.1 Y0.2) ?_
  iterate 4 (refine Dq.wpT_plain rfl rfl (by first | exact True.intro | exact ⟨rfl, rfl⟩ | exact rfl | exact ⟨_, rfl⟩ | exact ⟨_, _, rfl, by first | assumption | (simp [*]; done)⟩) (fun _ _ => ?_); go_wp2)
  refine Dq.wpT_pure rfl rfl (enters_of Try.func71 (by kernel_rfl) rfl) #[.float .f64 x.lo, .float .f64 y.lo] (.float .f64 (Fl.minT x.lo y.lo)) (by simp [Act.eval]) rfl (min_any _ _) ?_
  iterate 4 (refine Dq.wpT_plain rfl rfl (by first | exact True.intro | exact ⟨rfl, rfl⟩ | exact rfl | exact ⟨_, rfl⟩ | exact ⟨_, _, rfl, by first | assumption | (simp [*]; done)⟩) (fun _ _ => ?_); go_wp2)
  refine Dq.wpT_pure rfl rfl (enters_of Try.func72 (by kernel_rfl) rfl) #[.float .f64 x.hi, .float .f64 y.hi] (.float .f64 (Fl.maxT x.hi y.hi)) (by simp [Act.eval]) rfl (max_any _ _) ?_
  repeat (refine Dq.wpT_plain rfl rfl (by first | exact True.intro | exact ⟨rfl, rfl⟩ | exact rfl | exact ⟨_, rfl⟩ | exact ⟨_, _, rfl, by first | assumption | (simp [*]; done)⟩) (fun _ _ => ?_); go_wp2)
  refine Dq.wpT_nil ?_
  go_wp2
  have e2 : Fl.minT x.lo y.lo = (Gn.part x y 0).lo := rfl
  have ST0 : Gg.St w ((W.drewN 1).alloc (.cells ((Gn.part x y 0).val k (.slice none 0 0)) 37)) k k2 x y (Gn.part x y 0) vx vy (.slice none 0 0) [] := by
    obtain ⟨s0, s1, s2⟩ := HS.out
    refine ⟨(ht.drewN 1).alloc _, heap_old _ s0, heap_old _ s1, ⟨⟨0, 0, 0, 0, 0, 0, 0, 0, 0⟩, _, heap_old _ s2⟩, heap_at _ HZ.out.symm, Own.nil _ _ _, by simp [ob, Value.ownBlock]⟩
  have ST := Lib.hid ST0
  clear ST0 e2 a0 a1 a8 a9 b1 b8 b9 HS ht X0 Y0
  go_loopw [27] (fun vi wr => ∃ (i : Nat) (I : Int), vi = .int .i64 I ∧ I = i ∧ i ≤ 6 ∧ Gg.St w wr k k2 x y (Gn.part x y i) vx vy (.slice none 0 0) []) (fun vi _ => 6 - gint vi)
  case atStart => exact ⟨0, 0, rfl, rfl, by omega, by rw [hz] at *; exact ST.out⟩
  case round =>
    obtain ⟨i, I, rfl, hI, hi, st⟩ := hrel
    rcases (show i = 0 ∨ i = 1 ∨ i = 2 ∨ i = 3 ∨ i = 4 ∨ i = 5 ∨ i = 6 by omega) with rfl | rfl | rfl | rfl | rfl | rfl | rfl
    · obtain rfl : I = 0 := hI
      have u0 := cell_cells st.s 2
      have u1 := cell_cells st.y 2
      have u2 := cell_cells st.o 2
      have u3 := frozen_cells st.o 2
      simp at u0 u1 u2
      have PU := plus_any x.e0 y.e0 X1.1 X1.2 Y1.1 Y1.2
      have HPU := Lib.hid PU
      have HST := Lib.hid st
      clear st PU
      go_wp2
      refine Dq.wp_region_text PSp (by kernel_rfl) (by kernel_rfl) ?_
      iterate 9 (refine Dq.wpT_plain rfl rfl (by first | exact True.intro | exact ⟨rfl, rfl⟩ | exact rfl | exact ⟨_, rfl⟩ | exact ⟨_, _, rfl, by first | assumption | (simp [*]; done)⟩) (fun _ _ => ?_); go_wp2)
      refine Dq.wpT_pure rfl rfl (enters_of Try.func70 (by kernel_rfl) rfl) #[.int .u32 x.e0, .int .u32 y.e0] (.int .u32 (plus x.e0 y.e0)) (by simp [Act.eval]) rfl HPU.out ?_
      repeat (refine Dq.wpT_plain rfl rfl (by first | exact True.intro | exact ⟨rfl, rfl⟩ | exact rfl | exact ⟨_, rfl⟩ | exact ⟨_, _, rfl, by first | assumption | (simp [*]; done)⟩) (fun _ _ => ?_); go_wp2)
      refine Dq.wpT_nil ?_
      go_wp2
      go_roundw
      case rel => exact ⟨1, 1, rfl, rfl, by omega, HST.out.edge 0 _ _ rfl⟩
      case measure => simp [gint]
    · obtain rfl : I = 1 := hI
      have u0 := cell_cells st.s 3
      have u1 := cell_cells st.y 3
      have u2 := cell_cells st.o 3
      have u3 := frozen_cells st.o 3
      simp at u0 u1 u2
      have PU := plus_any x.e1 y.e1 X2.1 X2.2 Y2.1 Y2.2
      have HPU := Lib.hid PU
      have HST := Lib.hid st
      clear st PU
      go_wp2
      refine Dq.wp_region_text PSp (by kernel_rfl) (by kernel_rfl) ?_
      iterate 9 (refine Dq.wpT_plain rfl rfl (by first | exact True.intro | exact ⟨rfl, rfl⟩ | exact rfl | exact ⟨_, rfl⟩ | exact ⟨_, _, rfl, by first | assumption | (simp [*]; done)⟩) (fun _ _ => ?_); go_wp2)
      refine Dq.wpT_pure rfl rfl (enters_of Try.func70 (by kernel_rfl) rfl) #[.int .u32 x.e1, .int .u32 y.e1] (.int .u32 (plus x.e1 y.e1)) (by simp [Act.eval]) rfl HPU.out ?_
      repeat (refine Dq.wpT_plain rfl rfl (by first | exact True.intro | exact ⟨rfl, rfl⟩ | exact rfl | exact ⟨_, rfl⟩ | exact ⟨_, _, rfl, by first | assumption | (simp [*]; done)⟩) (fun _ _ => ?_); go_wp2)
      refine Dq.wpT_nil ?_
      go_wp2
      go_roundw
      case rel => exact ⟨2, 2, rfl, rfl, by omega, HST.out.edge 1 _ _ rfl⟩
      case measure => simp [gint]
    · obtain rfl : I = 2 := hI
      have u0 := cell_cells st.s 4
      have u1 := cell_cells st.y 4
      have u2 := cell_cells st.o 4
      have u3 := frozen_cells st.o 4
      simp at u0 u1 u2
      have PU := plus_any x.e2 y.e2 X3.1 X3.2 Y3.1 Y3.2
      have HPU := Lib.hid PU
      have HST := Lib.hid st
      clear st PU
      go_wp2
      refine Dq.wp_region_text PSp (by kernel_rfl) (by kernel_rfl) ?_
      iterate 9 (refine Dq.wpT_plain rfl rfl (by first | exact True.intro | exact ⟨rfl, rfl⟩ | exact rfl | exact ⟨_, rfl⟩ | exact ⟨_, _, rfl, by first | assumption | (simp [*]; done)⟩) (fun _ _ => ?_); go_wp2)
      refine Dq.wpT_pure rfl rfl (enters_of Try.func70 (by kernel_rfl) rfl) #[.int .u32 x.e2, .int .u32 y.e2] (.int .u32 (plus x.e2 y.e2)) (by simp [Act.eval]) rfl HPU.out ?_
      repeat (refine Dq.wpT_plain rfl rfl (by first | exact True.intro | exact ⟨rfl, rfl⟩ | exact rfl | exact ⟨_, rfl⟩ | exact ⟨_, _, rfl, by first | assumption | (simp [*]; done)⟩) (fun _ _ => ?_); go_wp2)
      refine Dq.wpT_nil ?_
      go_wp2
      go_roundw
      case rel => exact ⟨3, 3, rfl, rfl, by omega, HST.out.edge 2 _ _ rfl⟩
      case measure => simp [gint]
    · obtain rfl : I = 3 := hI
      have u0 := cell_cells st.s 5
      have u1 := cell_cells st.y 5
      have u2 := cell_cells st.o 5
      have u3 := frozen_cells st.o 5
      simp at u0 u1 u2
      have PU := plus_any x.e3 y.e3 X4.1 X4.2 Y4.1 Y4.2
      have HPU := Lib.hid PU
      have HST := Lib.hid st
      clear st PU
      go_wp2
      refine Dq.wp_region_text PSp (by kernel_rfl) (by kernel_rfl) ?_
      iterate 9 (refine Dq.wpT_plain rfl rfl (by first | exact True.intro | exact ⟨rfl, rfl⟩ | exact rfl | exact ⟨_, rfl⟩ | exact ⟨_, _, rfl, by first | assumption | (simp [*]; done)⟩) (fun _ _ => ?_); go_wp2)
      refine Dq.wpT_pure rfl rfl (enters_of Try.func70 (by kernel_rfl) rfl) #[.int .u32 x.e3, .int .u32 y.e3] (.int .u32 (plus x.e3 y.e3)) (by simp [Act.eval]) rfl HPU.out ?_
      repeat (refine Dq.wpT_plain rfl rfl (by first | exact True.intro | exact ⟨rfl, rfl⟩ | exact rfl | exact ⟨_, rfl⟩ | exact ⟨_, _, rfl, by first | assumption | (simp [*]; done)⟩) (fun _ _ => ?_); go_wp2)
      refine Dq.wpT_nil ?_
      go_wp2
      go_roundw
      case rel => exact ⟨4, 4, rfl, rfl, by omega, HST.out.edge 3 _ _ rfl⟩
      case measure => simp [gint]
    · obtain rfl : I = 4 := hI
      have u0 := cell_cells st.s 6
      have u1 := cell_cells st.y 6
      have u2 := cell_cells st.o 6
      have u3 := frozen_cells st.o 6
      simp at u0 u1 u2
      have PU := plus_any x.e4 y.e4 X5.1 X5.2 Y5.1 Y5.2
      have HPU := Lib.hid PU
      have HST := Lib.hid st
      clear st PU
      go_wp2
      refine Dq.wp_region_text PSp (by kernel_rfl) (by kernel_rfl) ?_
      iterate 9 (refine Dq.wpT_plain rfl rfl (by first | exact True.intro | exact ⟨rfl, rfl⟩ | exact rfl | exact ⟨_, rfl⟩ | exact ⟨_, _, rfl, by first | assumption | (simp [*]; done)⟩) (fun _ _ => ?_); go_wp2)
      refine Dq.wpT_pure rfl rfl (enters_of Try.func70 (by kernel_rfl) rfl) #[.int .u32 x.e4, .int .u32 y.e4] (.int .u32 (plus x.e4 y.e4)) (by simp [Act.eval]) rfl HPU.out ?_
      repeat (refine Dq.wpT_plain rfl rfl (by first | exact True.intro | exact ⟨rfl, rfl⟩ | exact rfl | exact ⟨_, rfl⟩ | exact ⟨_, _, rfl, by first | assumption | (simp [*]; done)⟩) (fun _ _ => ?_); go_wp2)
      refine Dq.wpT_nil ?_
      go_wp2
      go_roundw
      case rel => exact ⟨5, 5, rfl, rfl, by omega, HST.out.edge 4 _ _ rfl⟩
      case measure => simp [gint]
    · obtain rfl : I = 5 := hI
      have u0 := cell_cells st.s 7
      have u1 := cell_cells st.y 7
      have u2 := cell_cells st.o 7
      have u3 := frozen_cells st.o 7
      simp at u0 u1 u2
      have PU := plus_any x.e5 y.e5 X6.1 X6.2 Y6.1 Y6.2
      have HPU := Lib.hid PU
      have HST := Lib.hid st
      clear st PU
      go_wp2
      refine Dq.wp_region_text PSp (by kernel_rfl) (by kernel_rfl) ?_
      iterate 9 (refine Dq.wpT_plain rfl rfl (by first | exact True.intro | exact ⟨rfl, rfl⟩ | exact rfl | exact ⟨_, rfl⟩ | exact ⟨_, _, rfl, by first | assumption | (simp [*]; done)⟩) (fun _ _ => ?_); go_wp2)
      refine Dq.wpT_pure rfl rfl (enters_of Try.func70 (by kernel_rfl) rfl) #[.int .u32 x.e5, .int .u32 y.e5] (.int .u32 (plus x.e5 y.e5)) (by simp [Act.eval]) rfl HPU.out ?_
      repeat (refine Dq.wpT_plain rfl rfl (by first | exact True.intro | exact ⟨rfl, rfl⟩ | exact rfl | exact ⟨_, rfl⟩ | exact ⟨_, _, rfl, by first | assumption | (simp [*]; done)⟩) (fun _ _ => ?_); go_wp2)
      refine Dq.wpT_nil ?_
      go_wp2
      go_roundw
      case rel => exact ⟨6, 6, rfl, rfl, by omega, HST.out.edge 5 _ _ rfl⟩
      case measure => simp [gint]
    · obtain rfl : I = 6 := hI
      rw [Gn.part_all] at st
      have a0 := cell_cells st.s 10
      have b0 := cell_cells st.y 10
      simp at a0 b0
      have HST := Lib.hid st
      clear st
      go_wp2
      go_quiet (fail)
      go_wp2
      obtain ⟨z, hz2⟩ : ∃ z, z = x.join y := ⟨_, rfl⟩
      rw [← hz2] at HST ⊢
      have HZ2 := Lib.hid hz2
      clear hz2 a0 b0
      go_loopw [7, 8] (fun a b wr => ∃ (us vs out : List Nat) (ov : Value), RdV w 1 a us.length (fv us) ∧ RdV w 1 b vs.length (fv vs) ∧ us.length ≤ xs.length ∧ vs.length ≤ ys.length ∧ Gg.St w wr k k2 x y z vx vy ov out ∧
          (out.length : Int) ≤ k ∧ out ++ (Gg.merge us vs).take (k.toNat - out.length) = (Gg.merge xs ys).take k.toNat)
        (fun a b _ => slen a + slen b)
      case atStart =>
        refine ⟨xs, ys, [], .slice none 0 0, hx, hy, Nat.le_refl _, Nat.le_refl _, ?_, by simpa using h0, by simp⟩
        obtain ⟨s1, s2, s3, s4, s5, s6, s7⟩ := HST.out
        exact ⟨s1.drewN _, s2, s3, s4, s5, s6.keep' ((Tr.refl [] _).drewN _), s7⟩
      case round =>
        clear HST
        obtain ⟨us, vs, out, ov, ha, hb, hla, hlb, st, hol, heq⟩ := hrel
        obtain ⟨A, c, rfl, hoc⟩ := st.own.rd.slice
        have cO := cell_cells st.o 10
        have cS := cell_cells st.s 0
        simp at cO cS
        have H := Lib.hid heq
        clear heq
        rcases (show ¬ (out.length : Int) < k ∨ ((out.length : Int) < k ∧ us = [] ∧ vs = []) ∨ ((out.length : Int) < k ∧ 0 < us.length + vs.length) by
          by_cases h : (out.length : Int) < k
          · cases us <;> cases vs <;> simp [h] <;> omega
          · exact .inl h) with hge | ⟨hlt, rfl, rfl⟩ | ⟨hlt, hne⟩
        · obtain ⟨A1, c1, rfl, _⟩ := ha.slice
          obtain ⟨A2, c2, rfl, _⟩ := hb.slice
          have cR : ∀ (z : Gn) (v : Value), wr.heap[w.heap.size + 1 + 1]? = some (.cells (Gn.val z 0 v) 37 (0, 0)) → True := fun _ _ _ => trivial
          clear cR
          obtain ⟨zr, vr, hr⟩ := st.r
          have fR := st.fr
          have r0 := cell_cells hr 0
          have r1 := cell_cells hr 1
          have r2 := cell_cells hr 2
          have r3 := cell_cells hr 3
          have r4 := cell_cells hr 4
          have r5 := cell_cells hr 5
          have r6 := cell_cells hr 6
          have r7 := cell_cells hr 7
          have r8 := cell_cells hr 8
          have r9 := cell_cells hr 9
          have rA := cell_cells hr 10
          have o0 := cell_cells st.o 0
          have o1 := cell_cells st.o 1
          have o2 := cell_cells st.o 2
          have o3 := cell_cells st.o 3
          have o4 := cell_cells st.o 4
          have o5 := cell_cells st.o 5
          have o6 := cell_cells st.o 6
          have o7 := cell_cells st.o 7
          have o8 := cell_cells st.o 8
          have o9 := cell_cells st.o 9
          simp at r0 r1 r2 r3 r4 r5 r6 r7 r8 r9 rA o0 o1 o2 o3 o4 o5 o6 o7 o8 o9
          have HST := Lib.hid st
          clear hr st
          go_wp2
          refine bodyPost_ret (v := .agg (z.val k (.slice A out.length c))) (by simp [results, Try.results52, go_sem, r0, r1, r2, r3, r4, r5, r6, r7, r8, r9, rA]) rfl ?_
          rw [← H.out, show k.toNat - out.length = 0 by omega, List.take_zero, List.append_nil, ← HZ2.out]
          refine ⟨_, rfl, HST.out.done ?_⟩
          repeat (refine Tr.setCell ?_ (.inl (by simp)) _)
          exact Tr.refl _ _
        · obtain ⟨A1, c1, rfl, _⟩ := ha.slice
          obtain ⟨A2, c2, rfl, _⟩ := hb.slice
          have cR : ∀ (z : Gn) (v : Value), wr.heap[w.heap.size + 1 + 1]? = some (.cells (Gn.val z 0 v) 37 (0, 0)) → True := fun _ _ _ => trivial
          clear cR
          obtain ⟨zr, vr, hr⟩ := st.r
          have fR := st.fr
          have r0 := cell_cells hr 0
          have r1 := cell_cells hr 1
          have r2 := cell_cells hr 2
          have r3 := cell_cells hr 3
          have r4 := cell_cells hr 4
          have r5 := cell_cells hr 5
          have r6 := cell_cells hr 6
          have r7 := cell_cells hr 7
          have r8 := cell_cells hr 8
          have r9 := cell_cells hr 9
          have rA := cell_cells hr 10
          have o0 := cell_cells st.o 0
          have o1 := cell_cells st.o 1
          have o2 := cell_cells st.o 2
          have o3 := cell_cells st.o 3
          have o4 := cell_cells st.o 4
          have o5 := cell_cells st.o 5
          have o6 := cell_cells st.o 6
          have o7 := cell_cells st.o 7
          have o8 := cell_cells st.o 8
          have o9 := cell_cells st.o 9
          simp at r0 r1 r2 r3 r4 r5 r6 r7 r8 r9 rA o0 o1 o2 o3 o4 o5 o6 o7 o8 o9
          have HST := Lib.hid st
          clear hr st
          go_wp2
          refine bodyPost_ret (v := .agg (z.val k (.slice A out.length c))) (by simp [results, Try.results52, go_sem, r0, r1, r2, r3, r4, r5, r6, r7, r8, r9, rA]) rfl ?_
          rw [← H.out]; simp only [Gg.merge, List.take_nil, List.append_nil]
          rw [← HZ2.out]
          refine ⟨_, rfl, HST.out.done ?_⟩
          repeat (refine Tr.setCell ?_ (.inl (by simp)) _)
          exact Tr.refl _ _
        · cases us with
          | nil =>
            obtain ⟨A1, c1, rfl, _⟩ := ha.slice
            cases vs with
            | nil => simp at hne
            | cons q vs =>
              obtain ⟨b2, f2, c2, rfl, hc2, hm2, hb2, hcell2⟩ := hb.ptr (by simp)
              obtain ⟨vb', hb', hsb⟩ := hb.tail elF
              simp only [List.length_cons] at hlb hb hsb
              have hv1 : vs.length + 1 < 4294967296 := by omega
              have hz := succ_nz vs.length
              have cb : wr.cell? ⟨b2, f2, none⟩ = some (.float .f64 q) := (st.tr.cell (p := ⟨b2, f2, none⟩) hb2 (by simp)).trans (hcell2 0 _ rfl)
              clear hcell2
              have EQ := Lib.hid (Gg.take_step (k := k.toNat) (out := out) (Gg.m2 q vs) (by omega))
              go_wp2
              go_quiet (fail)
              go_wp2
              have rdx := fun n => rd_one (wr.drewN n) 24 (.float .f64 q) rfl
              refine Dq.wp_region_text PSp (by kernel_rfl) (by kernel_rfl) ?_
              iterate 6 (refine Dq.wpT_plain rfl rfl (by first | exact True.intro | exact ⟨rfl, rfl⟩ | exact rfl | exact ⟨_, rfl⟩ | exact ⟨_, _, rfl, by first | assumption | (simp [*]; done)⟩) (fun _ _ => ?_); go_wp2)
              refine Dq.wpT_plain rfl rfl True.intro (fun _ _ => ?_)
              refine wp_app (.tmp 90) (.tmp 94) 35 rfl 24 1 8 elF out.length 1 (fv out) [.float .f64 q] (st.own.keep' (((Tr.refl [] wr).drewN _).alloc _)) (rdx _) (by omega) (by omega) ?_
              intro v' w1 hown1 ht1 hb1
              have hmid := st.mid (((Tr.refl [] wr).drewN _).alloc _) ht1
              have HP := Lib.hid (st.push q (((Tr.refl [] wr).drewN _).alloc _) hown1 ht1 hb1)
              obtain ⟨g', cap', rfl, _, _, _⟩ := hown1.form (by omega)
              have cO1 := cell_cells hmid 10
              have fO1 := frozen_cells hmid 10
              simp at cO1
              clear cO cS hown1 ht1 hb1 hmid rdx st
              go_wp2
              repeat (refine Dq.wpT_plain rfl rfl (by first | exact True.intro | exact ⟨rfl, rfl⟩ | exact rfl | exact ⟨_, rfl⟩ | exact ⟨_, _, rfl, by first | assumption | (simp [*]; done)⟩) (fun _ _ => ?_); go_wp2)
              refine Dq.wpT_nil ?_
              go_wp2
              go_roundw
              case rel =>
                refine ⟨[], vs, out ++ [q], _, ha, hb', by first | exact hla | (simp at hla ⊢; omega) | omega, by first | exact hlb | (simp at hlb ⊢; omega) | omega, HP.out, by simp; omega, ?_⟩
                rw [← H.out]
                exact EQ.out
              case measure => rw [hb'.slen_eq]; simp [slen]
          | cons p us =>
            obtain ⟨b1, f1, c1, rfl, hc1, hm1, hb1, hcell1⟩ := ha.ptr (by simp)
            obtain ⟨va', ha', hsa⟩ := ha.tail elF
            simp only [List.length_cons] at hla ha hsa
            have hu1 : us.length + 1 < 4294967296 := by omega
            have ca : wr.cell? ⟨b1, f1, none⟩ = some (.float .f64 p) := (st.tr.cell (p := ⟨b1, f1, none⟩) hb1 (by simp)).trans (hcell1 0 _ rfl)
            clear hcell1
            cases vs with
            | nil =>
              obtain ⟨A2, c2, rfl, _⟩ := hb.slice
              have EQ := Lib.hid (Gg.take_step (k := k.toNat) (out := out) (Gg.m1 p us) (by omega))
              go_wp2
              go_quiet (fail)
              go_wp2
              have rdx := fun n => rd_one (wr.drewN n) 24 (.float .f64 p) rfl
              refine Dq.wp_region_text PSp (by kernel_rfl) (by kernel_rfl) ?_
              iterate 6 (refine Dq.wpT_plain rfl rfl (by first | exact True.intro | exact ⟨rfl, rfl⟩ | exact rfl | exact ⟨_, rfl⟩ | exact ⟨_, _, rfl, by first | assumption | (simp [*]; done)⟩) (fun _ _ => ?_); go_wp2)
              refine Dq.wpT_plain rfl rfl True.intro (fun _ _ => ?_)
              refine wp_app (.tmp 80) (.tmp 84) 35 rfl 24 1 8 elF out.length 1 (fv out) [.float .f64 p] (st.own.keep' (((Tr.refl [] wr).drewN _).alloc _)) (rdx _) (by omega) (by omega) ?_
              intro v' w1 hown1 ht1 hb1
              have hmid := st.mid (((Tr.refl [] wr).drewN _).alloc _) ht1
              have HP := Lib.hid (st.push p (((Tr.refl [] wr).drewN _).alloc _) hown1 ht1 hb1)
              obtain ⟨g', cap', rfl, _, _, _⟩ := hown1.form (by omega)
              have cO1 := cell_cells hmid 10
              have fO1 := frozen_cells hmid 10
              simp at cO1
              clear cO cS hown1 ht1 hb1 hmid rdx st
              go_wp2
              repeat (refine Dq.wpT_plain rfl rfl (by first | exact True.intro | exact ⟨rfl, rfl⟩ | exact rfl | exact ⟨_, rfl⟩ | exact ⟨_, _, rfl, by first | assumption | (simp [*]; done)⟩) (fun _ _ => ?_); go_wp2)
              refine Dq.wpT_nil ?_
              go_wp2
              go_roundw
              case rel =>
                refine ⟨us, [], out ++ [p], _, ha', hb, by first | exact hla | (simp at hla ⊢; omega) | omega, by first | exact hlb | (simp at hlb ⊢; omega) | omega, HP.out, by simp; omega, ?_⟩
                rw [← H.out]
                exact EQ.out
              case measure => rw [ha'.slen_eq]; simp [slen]
            | cons q vs =>
              obtain ⟨b2, f2, c2, rfl, hc2, hm2, hb2, hcell2⟩ := hb.ptr (by simp)
              obtain ⟨vb', hb', hsb⟩ := hb.tail elF
              simp only [List.length_cons] at hlb hb hsb
              have hv1 : vs.length + 1 < 4294967296 := by omega
              have hz := succ_nz vs.length
              have cb : wr.cell? ⟨b2, f2, none⟩ = some (.float .f64 q) := (st.tr.cell (p := ⟨b2, f2, none⟩) hb2 (by simp)).trans (hcell2 0 _ rfl)
              clear hcell2
              by_cases hxy : Fl.keyT q < Fl.keyT p
              · have EQ := Lib.hid (Gg.take_step (k := k.toNat) (out := out) (Gg.m4 us vs hxy) (by omega))
                have LQ : ∀ n, Calls Try.prog 30 #[.float .f64 q, .float .f64 p] (wr.drewN n) fun e w' => e = .returned (.bool true) ∧ ∃ m, w' = wr.drewN m := fun n => by
                  have := less_q q p wr n; rw [decide_eq_true hxy] at this; exact this
                have HL := Lib.hid LQ
                clear LQ hxy
                go_wp2
                go_quiet ((go_at_call 30; exact HL.out _))
                go_wp2
                have rdx := fun n => rd_one (wr.drewN n) 24 (.float .f64 q) rfl
                refine Dq.wp_region_text PSp (by kernel_rfl) (by kernel_rfl) ?_
                iterate 6 (refine Dq.wpT_plain rfl rfl (by first | exact True.intro | exact ⟨rfl, rfl⟩ | exact rfl | exact ⟨_, rfl⟩ | exact ⟨_, _, rfl, by first | assumption | (simp [*]; done)⟩) (fun _ _ => ?_); go_wp2)
                refine Dq.wpT_plain rfl rfl True.intro (fun _ _ => ?_)
                refine wp_app (.tmp 90) (.tmp 94) 35 rfl 24 1 8 elF out.length 1 (fv out) [.float .f64 q] (st.own.keep' (((Tr.refl [] wr).drewN _).alloc _)) (rdx _) (by omega) (by omega) ?_
                intro v' w1 hown1 ht1 hb1
                have hmid := st.mid (((Tr.refl [] wr).drewN _).alloc _) ht1
                have HP := Lib.hid (st.push q (((Tr.refl [] wr).drewN _).alloc _) hown1 ht1 hb1)
                obtain ⟨g', cap', rfl, _, _, _⟩ := hown1.form (by omega)
                have cO1 := cell_cells hmid 10
                have fO1 := frozen_cells hmid 10
                simp at cO1
                clear cO cS hown1 ht1 hb1 hmid rdx st
                go_wp2
                repeat (refine Dq.wpT_plain rfl rfl (by first | exact True.intro | exact ⟨rfl, rfl⟩ | exact rfl | exact ⟨_, rfl⟩ | exact ⟨_, _, rfl, by first | assumption | (simp [*]; done)⟩) (fun _ _ => ?_); go_wp2)
                refine Dq.wpT_nil ?_
                go_wp2
                go_roundw
                case rel =>
                  refine ⟨p :: us, vs, out ++ [q], _, ha, hb', by first | exact hla | (simp at hla ⊢; omega) | omega, by first | exact hlb | (simp at hlb ⊢; omega) | omega, HP.out, by simp; omega, ?_⟩
                  rw [← H.out]
                  exact EQ.out
                case measure => rw [hb'.slen_eq]; simp [slen]
              · have EQ := Lib.hid (Gg.take_step (k := k.toNat) (out := out) (Gg.m3 us vs hxy) (by omega))
                have LQ : ∀ n, Calls Try.prog 30 #[.float .f64 q, .float .f64 p] (wr.drewN n) fun e w' => e = .returned (.bool false) ∧ ∃ m, w' = wr.drewN m := fun n => by
                  have := less_q q p wr n; rw [decide_eq_false hxy] at this; exact this
                have HL := Lib.hid LQ
                clear LQ hxy
                go_wp2
                go_quiet ((go_at_call 30; exact HL.out _))
                go_wp2
                have rdx := fun n => rd_one (wr.drewN n) 24 (.float .f64 p) rfl
                refine Dq.wp_region_text PSp (by kernel_rfl) (by kernel_rfl) ?_
                iterate 6 (refine Dq.wpT_plain rfl rfl (by first | exact True.intro | exact ⟨rfl, rfl⟩ | exact rfl | exact ⟨_, rfl⟩ | exact ⟨_, _, rfl, by first | assumption | (simp [*]; done)⟩) (fun _ _ => ?_); go_wp2)
                refine Dq.wpT_plain rfl rfl True.intro (fun _ _ => ?_)
                refine wp_app (.tmp 80) (.tmp 84) 35 rfl 24 1 8 elF out.length 1 (fv out) [.float .f64 p] (st.own.keep' (((Tr.refl [] wr).drewN _).alloc _)) (rdx _) (by omega) (by omega) ?_
                intro v' w1 hown1 ht1 hb1
                have hmid := st.mid (((Tr.refl [] wr).drewN _).alloc _) ht1
                have HP := Lib.hid (st.push p (((Tr.refl [] wr).drewN _).alloc _) hown1 ht1 hb1)
                obtain ⟨g', cap', rfl, _, _, _⟩ := hown1.form (by omega)
                have cO1 := cell_cells hmid 10
                have fO1 := frozen_cells hmid 10
                simp at cO1
                clear cO cS hown1 ht1 hb1 hmid rdx st
                go_wp2
                repeat (refine Dq.wpT_plain rfl rfl (by first | exact True.intro | exact ⟨rfl, rfl⟩ | exact rfl | exact ⟨_, rfl⟩ | exact ⟨_, _, rfl, by first | assumption | (simp [*]; done)⟩) (fun _ _ => ?_); go_wp2)
                refine Dq.wpT_nil ?_
                go_wp2
                go_roundw
                case rel =>
                  refine ⟨us, q :: vs, out ++ [p], _, ha', hb, by first | exact hla | (simp at hla ⊢; omega) | omega, by first | exact hlb | (simp at hlb ⊢; omega) | omega, HP.out, by simp; omega, ?_⟩
                  rw [← H.out]
                  exact EQ.out
                case measure => rw [ha'.slen_eq]; simp [slen]
end Go.Proofs.Ytncnkfjddolabaa
