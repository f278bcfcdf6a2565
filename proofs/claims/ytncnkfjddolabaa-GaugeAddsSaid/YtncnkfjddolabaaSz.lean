/- The stable sort whole: stable_func and sort.SliceStable at any length. -/
import Derived.Test.YtncnkfjddolabaaSy
import Derived.Test.YtncnkfjddolabaaGp
import Derived.Shelf.GgSortFunc.Insertion
import Derived.Shelf.Abstract
import Derived.Lib.RowBridge
import Derived.Lib.SortBridge
set_option linter.unusedVariables false
set_option linter.unusedSimpArgs false
namespace Go.Proofs
open Go.Shelf
def Try.st8_ren : Go.Shelf.Ren := ⟨fun | 8 => 17 | 13 => 38 | 14 => 39 | 16 => 41 | 15 => 40 | 29 => 63 | 30 => 64 | 42 => 74 | 49 => 86 | n => n, fun | 20 => 20 | 26 => 45 | 36 => 70 | 0 => 0 | 38 => 72 | 42 => 76 | 3 => 3 | 4 => 4 | 47 => 92 | 17 => 17 | 33 => 67 | 34 => 68 | 89 => 130 | 12 => 12 | 56 => 33 | 82 => 123 | 5 => 5 | 83 => 124 | 84 => 125 | 85 => 126 | 86 => 127 | 87 => 128 | n => n, fun | n => n⟩
theorem Try.st8 : Go.Proofs.LaysGt.n8 Try.prog Try.st8_ren := {
  mixed := by kernel_rfl,
  f8 := Try.func17.trans (congrArg some (by kernel_rfl)),
  f13 := Try.func38.trans (congrArg some (by kernel_rfl)),
  f14 := Try.func39.trans (congrArg some (by kernel_rfl)),
  f15 := Try.func40.trans (congrArg some (by kernel_rfl)),
  f16 := Try.func41.trans (congrArg some (by kernel_rfl)),
  f29 := Try.func63.trans (congrArg some (by kernel_rfl)),
  f30 := Try.func64.trans (congrArg some (by kernel_rfl)),
  f42 := Try.func74.trans (congrArg some (by kernel_rfl)),
  f49 := Try.func86.trans (congrArg some (by kernel_rfl)),
  t0 := Try.underlying0,
  a0 := Try.isAgg0,
  z0 := Try.sizeOf0,
  v0 := Try.zeroValue0,
  i0 := by kernel_rfl,
  t3 := Try.underlying3,
  a3 := Try.isAgg3,
  z3 := Try.sizeOf3,
  v3 := Try.zeroValue3,
  i3 := by kernel_rfl,
  t4 := Try.underlying4,
  a4 := Try.isAgg4,
  z4 := Try.sizeOf4,
  v4 := Try.zeroValue4,
  i4 := by kernel_rfl,
  t5 := Try.underlying5,
  a5 := Try.isAgg5,
  z5 := Try.sizeOf5,
  v5 := Try.zeroValue5,
  i5 := by kernel_rfl,
  t12 := Try.underlying12,
  a12 := Try.isAgg12,
  z12 := Try.sizeOf12,
  v12 := Try.zeroValue12,
  i12 := by kernel_rfl,
  t17 := Try.underlying17,
  a17 := Try.isAgg17,
  z17 := Try.sizeOf17,
  v17 := Try.zeroValue17,
  i17 := by kernel_rfl,
  t20 := Try.underlying20,
  a20 := Try.isAgg20,
  z20 := Try.sizeOf20,
  v20 := Try.zeroValue20,
  i20 := by kernel_rfl,
  t26 := Try.underlying45,
  a26 := Try.isAgg45,
  z26 := Try.sizeOf45,
  v26 := Try.zeroValue45,
  i26 := by kernel_rfl,
  t33 := Try.underlying67,
  a33 := Try.isAgg67,
  z33 := Try.sizeOf67,
  v33 := Try.zeroValue67,
  i33 := by kernel_rfl,
  t34 := Try.underlying68,
  a34 := Try.isAgg68,
  z34 := Try.sizeOf68,
  v34 := Try.zeroValue68,
  i34 := by kernel_rfl,
  t36 := Try.underlying70,
  a36 := Try.isAgg70,
  z36 := Try.sizeOf70,
  v36 := Try.zeroValue70,
  i36 := by kernel_rfl,
  t38 := Try.underlying72,
  a38 := Try.isAgg72,
  z38 := Try.sizeOf72,
  v38 := Try.zeroValue72,
  i38 := by kernel_rfl,
  t42 := Try.underlying76,
  a42 := Try.isAgg76,
  z42 := Try.sizeOf76,
  v42 := Try.zeroValue76,
  i42 := by kernel_rfl,
  t47 := Try.underlying92,
  a47 := Try.isAgg92,
  z47 := Try.sizeOf92,
  v47 := Try.zeroValue92,
  i47 := by kernel_rfl,
  t56 := Try.underlying33,
  a56 := Try.isAgg33,
  z56 := Try.sizeOf33,
  v56 := Try.zeroValue33,
  i56 := by kernel_rfl,
  t82 := Try.underlying123,
  a82 := Try.isAgg123,
  z82 := Try.sizeOf123,
  v82 := Try.zeroValue123,
  i82 := by kernel_rfl,
  t83 := Try.underlying124,
  a83 := Try.isAgg124,
  z83 := Try.sizeOf124,
  v83 := Try.zeroValue124,
  i83 := by kernel_rfl,
  t84 := Try.underlying125,
  a84 := Try.isAgg125,
  z84 := Try.sizeOf125,
  v84 := Try.zeroValue125,
  i84 := by kernel_rfl,
  t85 := Try.underlying126,
  a85 := Try.isAgg126,
  z85 := Try.sizeOf126,
  v85 := Try.zeroValue126,
  i85 := by kernel_rfl,
  t86 := Try.underlying127,
  a86 := Try.isAgg127,
  z86 := Try.sizeOf127,
  v86 := Try.zeroValue127,
  i86 := by kernel_rfl,
  t87 := Try.underlying128,
  a87 := Try.isAgg128,
  z87 := Try.sizeOf128,
  v87 := Try.zeroValue128,
  i87 := by kernel_rfl,
  t89 := Try.underlying130,
  a89 := Try.isAgg130,
  z89 := Try.sizeOf130,
  v89 := Try.zeroValue130,
  i89 := by kernel_rfl }
end Go.Proofs
namespace Go.Proofs.Ytncnkfjddolabaa
open Go Go.RowKit Go.Shelf Go.Lib Go.Sort

section
variable {α : Type} [Inhabited α] {enc : α → Value} {lt : α → α → Bool} {g : Nat} {lb : Array Value} {sf : Nat} {sb : Array Value} {blk off size : Nat} {w0 : World}

theorem trGrow (w : World) (os : Array Obj) : Tr [] w (Sort.grow w os) := ⟨rfl, rfl, rfl, by simp [Sort.grow], fun k hk _ => by simp [Sort.grow, Array.getElem?_append, hk]⟩
theorem tr_sortWorld (enc : α → Value) (w : World) (blk off m : Nat) (d : Array α) (os : Array Obj) : Tr [blk] w (sortWorld enc w blk off m d os) := by
  refine Tr.trans (w1 := putRow enc (Sort.ahead w m) blk off d) ⟨rfl, rfl, rfl, ?_, fun k hk hn => ?_⟩ (trGrow _ os) (by simp)
  · rw [size_putRow]; exact Nat.le_refl _
  · unfold putRow mapBlock
    simp only [Array.getElem?_modify]
    rw [if_neg (by simp at hn; omega)]
    rfl

theorem insertion (hS : SWO lt) (S : SoSet enc lt g lb sf sb blk off size w0) (d : Array α) (W : World) (hSW : SW enc w0 blk off d W) (hs : d.size = size) (a b : Nat) (h1 : a ≤ b) (h2 : b ≤ size) :
    Calls Try.prog 63 #[soData g lb sf sb, .int .i64 a, .int .i64 b] W (SoGives enc w0 blk off (Merged lt a b d) W) := by
  obtain ⟨d0, hH, hd0⟩ := S.holds
  have LI := ({ Try.st8 with } : LaysGt.n29 Try.prog Try.st8_ren).elder
  have h := Any.insertionSort_func_w LI enc lt g lb sf sb blk off a b d W S.eg (by rw [hs]; exact hSW.lessReads S.less S.inn hs) (by rw [hs]; exact S.swap) (hSW.holds S.inn hH (by omega)) (hSW.lt S.inn) h1 (by omega) (by rw [hs]; exact S.lim)
  change Calls Try.prog 63 _ _ _ at h
  refine h.mono ?_
  rintro e w' ⟨rfl, n, os, rfl⟩
  obtain ⟨p1, p2⟩ := insertionSort_holds hS d a b h1 (by omega)
  exact ⟨rfl, _, ⟨p1.1, p1, p2⟩, hSW.on S.inn n _ os p1.1, tr_sortWorld _ _ _ _ _ _ _⟩

set_option maxRecDepth 100000 in
set_option maxHeartbeats 8000000 in
theorem stable_any (hS : SWO lt) (S : SoSet enc lt g lb sf sb blk off size w0) (d : Array α) (W : World) (hSW : SW enc w0 blk off d W) (hs : d.size = size) (hlim : size < 4294967296) :
    Calls Try.prog 40 #[soData g lb sf sb, .int .i64 size] W (SoGives enc w0 blk off (Merged lt 0 size d) W) := by
  have hW := hSW.lt S.inn
  have HI := Lib.hid (insertion hS S)
  have HM := Lib.hid (fun (dk : Array α) (wr : World) (a m b : Nat) => symMerge hS S (b - a) dk wr a m b (Nat.le_refl _))
  have HW := Lib.hid hSW
  have hz := Lib.hid hs
  clear hS S hSW hs
  go_enter Try.func40, Try.ntmps40
  go_wp2
  go_loopw [5, 6] (fun va vb wr => ∃ (q : Nat) (dk : Array α), va = .int .i64 ((20 * q : Nat) : Int) ∧ vb = .int .i64 ((20 * q + 20 : Nat) : Int) ∧ 20 * q ≤ size ∧ Hid (SW enc w0 blk off dk wr) ∧ Hid (dk.size = size) ∧ Hid (PermIn 0 size d dk) ∧ Hid (Blk lt 20 0 (20 * q) (at! dk)) ∧
      Hid (Tr [blk] (W.alloc (.cells #[.func (.func g) #[] lb, .func (.func sf) #[] sb] 76)) wr)) (fun va _ _ => size + 20 - soInt va)
  case atStart => exact ⟨0, d, rfl, rfl, by omega, Lib.hid (HW.out.alloc _), hz, Lib.hid (permIn_refl _ _ _), Lib.hid (Blk.none (Nat.le_refl _)), Lib.hid (Tr.refl _ _)⟩
  case round =>
    obtain ⟨q, dk, rfl, rfl, hq, hsw, hdz, hp, hb, ht⟩ := hrel
    have c0 := (ht.out.cell (p := ⟨W.heap.size, 0, none⟩) (by simp) (by simp; omega)).trans (cell_cells (heap_new _ _) 0)
    have c1 := (ht.out.cell (p := ⟨W.heap.size, 1, none⟩) (by simp) (by simp; omega)).trans (cell_cells (heap_new _ _) 1)
    simp at c0 c1
    obtain ⟨a, ha⟩ : ∃ a : Nat, a = 20 * q := ⟨_, rfl⟩
    rw [← ha] at hq hb ⊢
    have HA := Lib.hid ha
    clear ha
    by_cases hlt : a + 20 ≤ size
    · have hlt' : ((a + 20 : Nat) : Int) ≤ size := by omega
      have K := HI.out dk wr hsw.out hdz.out a (a + 20) (by omega) hlt
      go_wp2_with (go_at_call 63; refine K.mono ?_; rintro e w5 ⟨rfl, d5, r5, s5, t5⟩; have R5 := Lib.hid r5; have S5 := Lib.hid s5; have T5 := Lib.hid (ht.out.trans t5 (by simp)); clear r5 s5 t5 K)
      go_roundw
      case rel =>
        refine ⟨q + 1, d5, by congr 1; have := HA.out; omega, by congr 1; have := HA.out; omega, by have := HA.out; omega, S5, Lib.hid (R5.out.size.trans hdz.out), Lib.hid (permIn_trans _ _ _ _ _ hp.out (permIn_mono _ _ _ _ _ _ (by omega) hlt (by rw [hdz.out]; exact Nat.le_refl _) R5.out.perm)), Lib.hid ?_, T5⟩
        have e := HA.out
        have h1 := hb.out
        have h2 : SF lt (at! d5) a (a + 20) := R5.out.sorted
        rw [e] at h1 h2
        have h3 : Blk lt 20 0 (20 * q) (at! d5) := h1.congr fun x x1 x2 => permIn_out R5.out.perm (.inl (by omega))
        have := h3.snoc (by omega) h2 (Nat.le_refl _)
        rw [show 20 * q + 20 = 20 * (q + 1) by omega] at this
        exact this
      case measure => simp only [soInt_int]; have := HA.out; omega
    · have hlt' : ¬ (((a + 20 : Nat) : Int) ≤ size) := by omega
      have K := HI.out dk wr hsw.out hdz.out a size hq (Nat.le_refl _)
      go_wp2_with (go_at_call 63; refine K.mono ?_; rintro e w5 ⟨rfl, d5, r5, s5, t5⟩; have R5 := Lib.hid r5; have S5 := Lib.hid s5; have T5 := Lib.hid (ht.out.trans t5 (by simp)); clear r5 s5 t5 K)
      have B5 : Hid (Blk lt 20 0 size (at! d5)) := by
        have e := HA.out
        have h1 := hb.out
        have h2 : SF lt (at! d5) a size := R5.out.sorted
        rw [e] at h1 h2
        have h3 : Blk lt 20 0 (20 * q) (at! d5) := h1.congr fun x x1 x2 => permIn_out R5.out.perm (.inl (by omega))
        exact Lib.hid (h3.snoc (by omega) h2 (by omega))
      have P5 := Lib.hid (permIn_trans _ _ _ _ _ hp.out (permIn_mono _ _ _ _ _ _ (by omega) (Nat.le_refl _) (by rw [hdz.out]; exact Nat.le_refl _) R5.out.perm))
      have Z5 := Lib.hid (R5.out.size.trans hdz.out)
      clear c0 c1 hsw hdz hp hb ht R5
      go_loopw [4] (fun vB wr => ∃ (B : Nat) (dk : Array α), vB = .int .i64 (B : Int) ∧ 20 ≤ B ∧ B ≤ 2 * size + 20 ∧ Hid (SW enc w0 blk off dk wr) ∧ Hid (dk.size = size) ∧ Hid (PermIn 0 size d dk) ∧ Hid (Blk lt B 0 size (at! dk)) ∧
          Hid (Tr [blk] (W.alloc (.cells #[.func (.func g) #[] lb, .func (.func sf) #[] sb] 76)) wr)) (fun vB _ => size + 1 - soInt vB)
      case atStart => exact ⟨20, d5, rfl, by omega, by omega, S5, Z5, P5, B5, T5⟩
      case round =>
        obtain ⟨B, dk, rfl, hB1, hB2, hsw, hdz, hp, hb, ht⟩ := hrel
        by_cases hBs : B < size
        · have hBs' : ((B : Int) < size) := by omega
          go_wp2
          go_loopw [5, 6] (fun va vb wr2 => ∃ (A q : Nat) (dj : Array α), va = .int .i64 (A : Int) ∧ vb = .int .i64 ((A : Int) + 2 * B) ∧ Hid (A = 2 * B * q) ∧ A ≤ size ∧ Hid (SW enc w0 blk off dj wr2) ∧ Hid (dj.size = size) ∧ Hid (PermIn 0 size d dj) ∧ Hid (Blk lt (2 * B) 0 A (at! dj)) ∧ Hid (Blk lt B A size (at! dj)) ∧
              Hid (Tr [blk] (W.alloc (.cells #[.func (.func g) #[] lb, .func (.func sf) #[] sb] 76)) wr2)) (fun va _ _ => size + 1 - soInt va)
          case atStart => exact ⟨0, 0, dk, rfl, (by first | rfl | (congr 1; omega)), Lib.hid (by simp), by omega, hsw, hdz, hp, Lib.hid (Blk.none (Nat.le_refl _)), hb, ht⟩
          case round =>
            obtain ⟨A, q2, dj, rfl, rfl, hA, hAs, hsw2, hdz2, hp2, hb2, hb3, ht2⟩ := hrel
            have c0 := (ht2.out.cell (p := ⟨W.heap.size, 0, none⟩) (by simp) (by simp; omega)).trans (cell_cells (heap_new _ _) 0)
            have c1 := (ht2.out.cell (p := ⟨W.heap.size, 1, none⟩) (by simp) (by simp; omega)).trans (cell_cells (heap_new _ _) 1)
            simp at c0 c1
            have q1 : Hid (B * (2 * q2) = A ∧ B * (2 * q2 + 1) = A + B) := by
              refine Lib.hid ?_
              have e : B * (2 * q2) = A := by rw [hA.out, Nat.mul_left_comm, Nat.mul_assoc]
              exact ⟨e, by rw [Nat.mul_succ, e]⟩
            by_cases hlt : A + 2 * B ≤ size
            · have hlt' : ((A : Int) + 2 * B) ≤ size := by omega
              have K := HM.out dj _ A (A + B) (A + 2 * B) hsw2.out hdz2.out (by omega) (by omega) hlt
                (by have := hb3.out.block (q := 2 * q2) (e := A + B) (by rw [q1.out.1]; exact Nat.le_refl _) (by rw [q1.out.1]; exact Nat.le_refl _) (by omega)
                    rw [q1.out.1] at this; exact this)
                (by have := hb3.out.block (q := 2 * q2 + 1) (e := A + 2 * B) (by rw [q1.out.2]; omega) (by rw [q1.out.2]; omega) (by omega)
                    rw [q1.out.2] at this; exact this)
              rw [show ((A + B : Nat) : Int) = (A : Int) + B by omega, show ((A + 2 * B : Nat) : Int) = (A : Int) + 2 * B by omega] at K
              go_wp2_with (go_at_call 64; refine K.mono ?_; rintro e w6 ⟨rfl, d6, r6, s6, t6⟩; have R6 := Lib.hid r6; have S6 := Lib.hid s6; have T6 := Lib.hid (ht2.out.trans t6 (by simp)); clear r6 s6 t6 K)
              go_roundw
              case rel =>
                refine ⟨A + 2 * B, q2 + 1, d6, (by first | rfl | (congr 1; omega)), (by first | rfl | (congr 1; omega)), Lib.hid (by rw [Nat.mul_succ, ← hA.out]), hlt, S6, Lib.hid (R6.out.size.trans hdz2.out), Lib.hid (permIn_trans _ _ _ _ _ hp2.out (permIn_mono _ _ _ _ _ _ (by omega) hlt (by rw [hdz2.out]; exact Nat.le_refl _) R6.out.perm)), Lib.hid ?_, Lib.hid ?_, T6⟩
                · have h1 : Blk lt (2 * B) 0 A (at! d6) := hb2.out.congr fun x x1 x2 => permIn_out R6.out.perm (.inl x2)
                  have h2 : SF lt (at! d6) A (A + 2 * B) := R6.out.sorted
                  rw [hA.out] at h1 h2 ⊢
                  exact h1.snoc (by omega) h2 (Nat.le_refl _)
                · exact (hb3.out.part (by omega) (Nat.le_refl _)).congr fun x x1 x2 => permIn_out R6.out.perm (.inr x1)
              case measure => simp only [soInt_int]; omega
            · have hlt' : ¬ ((A : Int) + 2 * B) ≤ size := by omega
              by_cases hm : A + B < size
              · have hm' : ((A : Int) + B) < size := by omega
                have K := HM.out dj _ A (A + B) size hsw2.out hdz2.out (by omega) (by omega) (Nat.le_refl _)
                  (by have := hb3.out.block (q := 2 * q2) (e := A + B) (by rw [q1.out.1]; exact Nat.le_refl _) (by rw [q1.out.1]; exact Nat.le_refl _) (by omega)
                      rw [q1.out.1] at this; exact this)
                  (by have := hb3.out.block (q := 2 * q2 + 1) (e := size) (by rw [q1.out.2]; omega) (by rw [q1.out.2]; omega) (by omega)
                      rw [q1.out.2] at this; exact this)
                rw [show ((A + B : Nat) : Int) = (A : Int) + B by omega] at K
                go_wp2_with (go_at_call 64; refine K.mono ?_; rintro e w6 ⟨rfl, d6, r6, s6, t6⟩; have R6 := Lib.hid r6; have S6 := Lib.hid s6; have T6 := Lib.hid (ht2.out.trans t6 (by simp)); clear r6 s6 t6 K)
                go_roundw
                case rel =>
                  refine ⟨2 * B, d6, (by first | rfl | (congr 1; omega)), by omega, by omega, S6, Lib.hid (R6.out.size.trans hdz2.out), Lib.hid (permIn_trans _ _ _ _ _ hp2.out (permIn_mono _ _ _ _ _ _ (by omega) (Nat.le_refl _) (by rw [hdz2.out]; exact Nat.le_refl _) R6.out.perm)), Lib.hid ?_, T6⟩
                  have h1 : Blk lt (2 * B) 0 A (at! d6) := hb2.out.congr fun x x1 x2 => permIn_out R6.out.perm (.inl x2)
                  have h2 : SF lt (at! d6) A size := R6.out.sorted
                  have h3 : size ≤ A + 2 * B := by omega
                  rw [hA.out] at h1 h2 h3
                  exact h1.snoc (by omega) h2 h3
                case measure => simp only [soInt_int]; omega
              · have hm' : ¬ ((A : Int) + B) < size := by omega
                go_wp2
                go_roundw
                case rel =>
                  refine ⟨2 * B, dj, (by first | rfl | (congr 1; omega)), by omega, by omega, hsw2, hdz2, hp2, Lib.hid ?_, ht2⟩
                  have h1 := hb2.out
                  have h2 : SF lt (at! dj) A size := by
                    have := hb3.out.block (q := 2 * q2) (e := size) (by rw [q1.out.1]; exact Nat.le_refl _) (by rw [q1.out.1]; omega) (Nat.le_refl _)
                    rw [q1.out.1] at this; exact this
                  have h3 : size ≤ A + 2 * B := by omega
                  rw [hA.out] at h1 h2 h3
                  exact h1.snoc (by omega) h2 h3
                case measure => simp only [soInt_int]; omega
        · have hBs' : ¬ ((B : Int) < size) := by omega
          go_wp2
          go_end0
          exact ⟨rfl, dk, ⟨hdz.out.trans hz.out.symm, hp.out, hb.out.all (by omega)⟩, hsw.out, ((Tr.refl [blk] W).alloc _).trans ht.out (by simp)⟩
end
end Go.Proofs.Ytncnkfjddolabaa
