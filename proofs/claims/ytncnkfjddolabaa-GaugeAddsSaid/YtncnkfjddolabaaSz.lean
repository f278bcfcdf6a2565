/- The stable sort whole: stable_func and sort.SliceStable at any length. -/
import Derived.Test.YtncnkfjddolabaaSy
import Derived.Test.YtncnkfjddolabaaGp
import Derived.Shelf.GgSortFunc.Insertion
import Derived.Shelf.Lay
import Derived.Lib.RowBridge
import Derived.Lib.SortBridge
set_option linter.unusedVariables false
set_option linter.unusedSimpArgs false
namespace Go.Proofs
open Go.Shelf
shelf_lay LaysGt.n8 Ggt 8 at Try as Try.st8
end Go.Proofs
namespace Go.Proofs.Ytncnkfjddolabaa
open Go Go.RowKit Go.Shelf Go.Lib Go.Sort

section
variable {α : Type} [Inhabited α] {enc : α → Value} {lt : α → α → Bool} {g : Nat} {lb : Array Value} {sf : Nat} {sb : Array Value} {blk off size : Nat} {w0 : World}

theorem trGrow (w : World) (os : Array Obj) : Tr [] w (Sort.grow w os) := ⟨rfl, rfl, rfl, by simp [Sort.grow], fun k hk _ => by simp [Sort.grow, Array.getElem?_append, hk]⟩
theorem tr_sortWorld (enc : α → Value) (w : World) (blk off m : Nat) (d : Array α) (os : Array Obj) : Tr [blk] w (sortWorld enc w blk off m d os) := by
  refine Tr.trans (w1 := putRow enc (Sort.ahead w m) blk off d) ⟨rfl, rfl, rfl, ?_, fun k hk hn => ?_⟩ (trGrow _ os) (by simp)
  · rw [size_putRow]; exact Nat.le_refl _
  · unfold putRow mapBlock
    simp only [Array.getElem?_modify]
    rw [if_neg (by simp at hn; omega)]
    rfl

theorem insertion (hS : SWO lt) (S : SoSet enc lt g lb sf sb blk off size w0) (d : Array α) (W : World) (hSW : SW enc w0 blk off d W) (hs : d.size = size) (a b : Nat) (h1 : a ≤ b) (h2 : b ≤ size) :
    Calls Try.prog 63 #[soData g lb sf sb, .int .i64 a, .int .i64 b] W (SoGives enc w0 blk off (Merged lt a b d) W) := by
  obtain ⟨d0, hH, hd0⟩ := S.holds
  have LI := ({ Try.st8 with } : LaysGt.n29 Try.prog Try.st8_ren).elder
  have h := Any.insertionSort_func_w LI enc lt g lb sf sb blk off a b d W S.eg (by rw [hs]; exact hSW.lessReads S.less S.inn hs) (by rw [hs]; exact S.swap) (hSW.holds S.inn hH (by omega)) (hSW.lt S.inn) h1 (by omega) (by rw [hs]; exact S.lim)
  change Calls Try.prog 63 _ _ _ at h
  refine h.mono ?_
  rintro e w' ⟨rfl, n, os, rfl⟩
  obtain ⟨p1, p2⟩ := insertionSort_holds hS d a b h1 (by omega)
  exact ⟨rfl, _, ⟨p1.1, p1, p2⟩, hSW.on S.inn n _ os p1.1, tr_sortWorld _ _ _ _ _ _ _⟩

set_option maxRecDepth 100000 in
set_option maxHeartbeats 8000000 in
theorem stable_any (hS : SWO lt) (S : SoSet enc lt g lb sf sb blk off size w0) (d : Array α) (W : World) (hSW : SW enc w0 blk off d W) (hs : d.size = size) (hlim : size < 4294967296) :
    Calls Try.prog 40 #[soData g lb sf sb, .int .i64 size] W (SoGives enc w0 blk off (Merged lt 0 size d) W) := by
  have hW := hSW.lt S.inn
  have HI := Lib.hid (insertion hS S)
  have HM := Lib.hid (fun (dk : Array α) (wr : World) (a m b : Nat) => symMerge hS S (b - a) dk wr a m b (Nat.le_refl _))
  have HW := Lib.hid hSW
  have hz := Lib.hid hs
  clear hS S hSW hs
  go_enter Try.func40, Try.ntmps40
  go_wp2
  go_loopw [5, 6] (fun va vb wr => ∃ (q : Nat) (dk : Array α), va = .int .i64 ((20 * q : Nat) : Int) ∧ vb = .int .i64 ((20 * q + 20 : Nat) : Int) ∧ 20 * q ≤ size ∧ Hid (SW enc w0 blk off dk wr) ∧ Hid (dk.size = size) ∧ Hid (PermIn 0 size d dk) ∧ Hid (Blk lt 20 0 (20 * q) (at! dk)) ∧
      Hid (Tr [blk] (W.alloc (.cells #[.func (.func g) #[] lb, .func (.func sf) #[] sb] 76)) wr)) (fun va _ _ => size + 20 - soInt va)
  case atStart => exact ⟨0, d, rfl, rfl, by omega, Lib.hid (HW.out.alloc _), hz, Lib.hid (permIn_refl _ _ _), Lib.hid (Blk.none (Nat.le_refl _)), Lib.hid (Tr.refl _ _)⟩
  case round =>
    obtain ⟨q, dk, rfl, rfl, hq, hsw, hdz, hp, hb, ht⟩ := hrel
    have c0 := (ht.out.cell (p := ⟨W.heap.size, 0, none⟩) (by simp) (by simp; omega)).trans (cell_cells (heap_new _ _) 0)
    have c1 := (ht.out.cell (p := ⟨W.heap.size, 1, none⟩) (by simp) (by simp; omega)).trans (cell_cells (heap_new _ _) 1)
    simp at c0 c1
    obtain ⟨a, ha⟩ : ∃ a : Nat, a = 20 * q := ⟨_, rfl⟩
    rw [← ha] at hq hb ⊢
    have HA := Lib.hid ha
    clear ha
    by_cases hlt : a + 20 ≤ size
    · have hlt' : ((a + 20 : Nat) : Int) ≤ size := by omega
      have K := HI.out dk wr hsw.out hdz.out a (a + 20) (by omega) hlt
      go_wp2_with (go_at_call 63; refine K.mono ?_; rintro e w5 ⟨rfl, d5, r5, s5, t5⟩; have R5 := Lib.hid r5; have S5 := Lib.hid s5; have T5 := Lib.hid (ht.out.trans t5 (by simp)); clear r5 s5 t5 K)
      go_roundw
      case rel =>
        refine ⟨q + 1, d5, by congr 1; have := HA.out; omega, by congr 1; have := HA.out; omega, by have := HA.out; omega, S5, Lib.hid (R5.out.size.trans hdz.out), Lib.hid (permIn_trans _ _ _ _ _ hp.out (permIn_mono _ _ _ _ _ _ (by omega) hlt (by rw [hdz.out]; exact Nat.le_refl _) R5.out.perm)), Lib.hid ?_, T5⟩
        have e := HA.out
        have h1 := hb.out
        have h2 : SF lt (at! d5) a (a + 20) := R5.out.sorted
        rw [e] at h1 h2
        have h3 : Blk lt 20 0 (20 * q) (at! d5) := h1.congr fun x x1 x2 => permIn_out R5.out.perm (.inl (by omega))
        have := h3.snoc (by omega) h2 (Nat.le_refl _)
        rw [show 20 * q + 20 = 20 * (q + 1) by omega] at this
        exact this
      case measure => simp only [soInt_int]; have := HA.out; omega
    · have hlt' : ¬ (((a + 20 : Nat) : Int) ≤ size) := by omega
      have K := HI.out dk wr hsw.out hdz.out a size hq (Nat.le_refl _)
      go_wp2_with (go_at_call 63; refine K.mono ?_; rintro e w5 ⟨rfl, d5, r5, s5, t5⟩; have R5 := Lib.hid r5; have S5 := Lib.hid s5; have T5 := Lib.hid (ht.out.trans t5 (by simp)); clear r5 s5 t5 K)
      have B5 : Hid (Blk lt 20 0 size (at! d5)) := by
        have e := HA.out
        have h1 := hb.out
        have h2 : SF lt (at! d5) a size := R5.out.sorted
        rw [e] at h1 h2
        have h3 : Blk lt 20 0 (20 * q) (at! d5) := h1.congr fun x x1 x2 => permIn_out R5.out.perm (.inl (by omega))
        exact Lib.hid (h3.snoc (by omega) h2 (by omega))
      have P5 := Lib.hid (permIn_trans _ _ _ _ _ hp.out (permIn_mono _ _ _ _ _ _ (by omega) (Nat.le_refl _) (by rw [hdz.out]; exact Nat.le_refl _) R5.out.perm))
      have Z5 := Lib.hid (R5.out.size.trans hdz.out)
      clear c0 c1 hsw hdz hp hb ht R5
      go_loopw [4] (fun vB wr => ∃ (B : Nat) (dk : Array α), vB = .int .i64 (B : Int) ∧ 20 ≤ B ∧ B ≤ 2 * size + 20 ∧ Hid (SW enc w0 blk off dk wr) ∧ Hid (dk.size = size) ∧ Hid (PermIn 0 size d dk) ∧ Hid (Blk lt B 0 size (at! dk)) ∧
          Hid (Tr [blk] (W.alloc (.cells #[.func (.func g) #[] lb, .func (.func sf) #[] sb] 76)) wr)) (fun vB _ => size + 1 - soInt vB)
      case atStart => exact ⟨20, d5, rfl, by omega, by omega, S5, Z5, P5, B5, T5⟩
      case round =>
        obtain ⟨B, dk, rfl, hB1, hB2, hsw, hdz, hp, hb, ht⟩ := hrel
        by_cases hBs : B < size
        · have hBs' : ((B : Int) < size) := by omega
          go_wp2
          go_loopw [5, 6] (fun va vb wr2 => ∃ (A q : Nat) (dj : Array α), va = .int .i64 (A : Int) ∧ vb = .int .i64 ((A : Int) + 2 * B) ∧ Hid (A = 2 * B * q) ∧ A ≤ size ∧ Hid (SW enc w0 blk off dj wr2) ∧ Hid (dj.size = size) ∧ Hid (PermIn 0 size d dj) ∧ Hid (Blk lt (2 * B) 0 A (at! dj)) ∧ Hid (Blk lt B A size (at! dj)) ∧
              Hid (Tr [blk] (W.alloc (.cells #[.func (.func g) #[] lb, .func (.func sf) #[] sb] 76)) wr2)) (fun va _ _ => size + 1 - soInt va)
          case atStart => exact ⟨0, 0, dk, rfl, (by first | rfl | (congr 1; omega)), Lib.hid (by simp), by omega, hsw, hdz, hp, Lib.hid (Blk.none (Nat.le_refl _)), hb, ht⟩
          case round =>
            obtain ⟨A, q2, dj, rfl, rfl, hA, hAs, hsw2, hdz2, hp2, hb2, hb3, ht2⟩ := hrel
            have c0 := (ht2.out.cell (p := ⟨W.heap.size, 0, none⟩) (by simp) (by simp; omega)).trans (cell_cells (heap_new _ _) 0)
            have c1 := (ht2.out.cell (p := ⟨W.heap.size, 1, none⟩) (by simp) (by simp; omega)).trans (cell_cells (heap_new _ _) 1)
            simp at c0 c1
            have q1 : Hid (B * (2 * q2) = A ∧ B * (2 * q2 + 1) = A + B) := by
              refine Lib.hid ?_
              have e : B * (2 * q2) = A := by rw [hA.out, Nat.mul_left_comm, Nat.mul_assoc]
              exact ⟨e, by rw [Nat.mul_succ, e]⟩
            by_cases hlt : A + 2 * B ≤ size
            · have hlt' : ((A : Int) + 2 * B) ≤ size := by omega
              have K := HM.out dj _ A (A + B) (A + 2 * B) hsw2.out hdz2.out (by omega) (by omega) hlt
                (by have := hb3.out.block (q := 2 * q2) (e := A + B) (by rw [q1.out.1]; exact Nat.le_refl _) (by rw [q1.out.1]; exact Nat.le_refl _) (by omega)
                    rw [q1.out.1] at this; exact this)
                (by have := hb3.out.block (q := 2 * q2 + 1) (e := A + 2 * B) (by rw [q1.out.2]; omega) (by rw [q1.out.2]; omega) (by omega)
                    rw [q1.out.2] at this; exact this)
              rw [show ((A + B : Nat) : Int) = (A : Int) + B by omega, show ((A + 2 * B : Nat) : Int) = (A : Int) + 2 * B by omega] at K
              go_wp2_with (go_at_call 64; refine K.mono ?_; rintro e w6 ⟨rfl, d6, r6, s6, t6⟩; have R6 := Lib.hid r6; have S6 := Lib.hid s6; have T6 := Lib.hid (ht2.out.trans t6 (by simp)); clear r6 s6 t6 K)
              go_roundw
              case rel =>
                refine ⟨A + 2 * B, q2 + 1, d6, (by first | rfl | (congr 1; omega)), (by first | rfl | (congr 1; omega)), Lib.hid (by rw [Nat.mul_succ, ← hA.out]), hlt, S6, Lib.hid (R6.out.size.trans hdz2.out), Lib.hid (permIn_trans _ _ _ _ _ hp2.out (permIn_mono _ _ _ _ _ _ (by omega) hlt (by rw [hdz2.out]; exact Nat.le_refl _) R6.out.perm)), Lib.hid ?_, Lib.hid ?_, T6⟩
                · have h1 : Blk lt (2 * B) 0 A (at! d6) := hb2.out.congr fun x x1 x2 => permIn_out R6.out.perm (.inl x2)
                  have h2 : SF lt (at! d6) A (A + 2 * B) := R6.out.sorted
                  rw [hA.out] at h1 h2 ⊢
                  exact h1.snoc (by omega) h2 (Nat.le_refl _)
                · exact (hb3.out.part (by omega) (Nat.le_refl _)).congr fun x x1 x2 => permIn_out R6.out.perm (.inr x1)
              case measure => simp only [soInt_int]; omega
            · have hlt' : ¬ ((A : Int) + 2 * B) ≤ size := by omega
              by_cases hm : A + B < size
              · have hm' : ((A : Int) + B) < size := by omega
                have K := HM.out dj _ A (A + B) size hsw2.out hdz2.out (by omega) (by omega) (Nat.le_refl _)
                  (by have := hb3.out.block (q := 2 * q2) (e := A + B) (by rw [q1.out.1]; exact Nat.le_refl _) (by rw [q1.out.1]; exact Nat.le_refl _) (by omega)
                      rw [q1.out.1] at this; exact this)
                  (by have := hb3.out.block (q := 2 * q2 + 1) (e := size) (by rw [q1.out.2]; omega) (by rw [q1.out.2]; omega) (by omega)
                      rw [q1.out.2] at this; exact this)
                rw [show ((A + B : Nat) : Int) = (A : Int) + B by omega] at K
                go_wp2_with (go_at_call 64; refine K.mono ?_; rintro e w6 ⟨rfl, d6, r6, s6, t6⟩; have R6 := Lib.hid r6; have S6 := Lib.hid s6; have T6 := Lib.hid (ht2.out.trans t6 (by simp)); clear r6 s6 t6 K)
                go_roundw
                case rel =>
                  refine ⟨2 * B, d6, (by first | rfl | (congr 1; omega)), by omega, by omega, S6, Lib.hid (R6.out.size.trans hdz2.out), Lib.hid (permIn_trans _ _ _ _ _ hp2.out (permIn_mono _ _ _ _ _ _ (by omega) (Nat.le_refl _) (by rw [hdz2.out]; exact Nat.le_refl _) R6.out.perm)), Lib.hid ?_, T6⟩
                  have h1 : Blk lt (2 * B) 0 A (at! d6) := hb2.out.congr fun x x1 x2 => permIn_out R6.out.perm (.inl x2)
                  have h2 : SF lt (at! d6) A size := R6.out.sorted
                  have h3 : size ≤ A + 2 * B := by omega
                  rw [hA.out] at h1 h2 h3
                  exact h1.snoc (by omega) h2 h3
                case measure => simp only [soInt_int]; omega
              · have hm' : ¬ ((A : Int) + B) < size := by omega
                go_wp2
                go_roundw
                case rel =>
                  refine ⟨2 * B, dj, (by first | rfl | (congr 1; omega)), by omega, by omega, hsw2, hdz2, hp2, Lib.hid ?_, ht2⟩
                  have h1 := hb2.out
                  have h2 : SF lt (at! dj) A size := by
                    have := hb3.out.block (q := 2 * q2) (e := size) (by rw [q1.out.1]; exact Nat.le_refl _) (by rw [q1.out.1]; omega) (Nat.le_refl _)
                    rw [q1.out.1] at this; exact this
                  have h3 : size ≤ A + 2 * B := by omega
                  rw [hA.out] at h1 h2 h3
                  exact h1.snoc (by omega) h2 h3
                case measure => simp only [soInt_int]; omega
        · have hBs' : ¬ ((B : Int) < size) := by omega
          go_wp2
          go_end0
          exact ⟨rfl, dk, ⟨hdz.out.trans hz.out.symm, hp.out, hb.out.all (by omega)⟩, hsw.out, ((Tr.refl [blk] W).alloc _).trans ht.out (by simp)⟩
end
end Go.Proofs.Ytncnkfjddolabaa
