/- The stable sort of package sort: swapRange_func, rotate_func. -/
import Derived.Test.YtncnkfjddolabaaProg
import Derived.Test.YtncnkfjddolabaaMem
import Derived.Shelf.GgSortMore.Stable
import Derived.Shelf.GgSortFunc.SW
import Derived.Shelf.Lay
import Derived.Sort.LotA
import Derived.WalkKit
set_option linter.unusedVariables false
set_option linter.unusedSimpArgs false
namespace Go.Proofs.Ytncnkfjddolabaa
open Go Go.RowKit Go.Shelf Go.Lib Go.Sort

/-- The setting of one sort: the closure, the exchange, the row. -/
structure SoSet {α : Type} [Inhabited α] (enc : α → Value) (lt : α → α → Bool) (g : Nat) (lb : Array Value) (sf : Nat) (sb : Array Value) (blk off size : Nat) (w0 : World) : Prop where
  eg : ∀ args w, (callFunc g args).run Try.prog w = .ok (.enter g args) w
  less : LessReads Try.prog g lb enc lt blk off size w0
  swap : SwapSwaps Try.prog sf sb enc blk off size
  inn : blk < w0.heap.size
  holds : ∃ d0, Holds enc w0 blk off d0 ∧ d0.size = size
  lim : size < 4611686018427387904

def soInt : Value → Nat
  | .int _ n => n.toNat
  | _ => 0
theorem soInt_int (k : IntKind) (n : Int) : soInt (.int k n) = n.toNat := rfl

def swF {α : Type} (f : Nat → α) (a b n : Nat) : Nat → α := fun x => if a ≤ x ∧ x < a + n then f (x - a + b) else if b ≤ x ∧ x < b + n then f (x - b + a) else f x
def rotF {α : Type} (f : Nat → α) (a m b : Nat) : Nat → α := fun x => if a ≤ x ∧ x < a + (b - m) then f (x + (m - a)) else if a + (b - m) ≤ x ∧ x < b then f (x - (b - m)) else f x
def at! {α : Type} [Inhabited α] (d : Array α) : Nat → α := fun x => d[x]!

structure SwR {α : Type} [Inhabited α] (lo hi : Nat) (F : Nat → α) (d d' : Array α) : Prop where
  size : d'.size = d.size
  perm : PermIn lo hi d d'
  at' : ∀ x, d'[x]! = F x

section
variable {α : Type} [Inhabited α]
theorem SwR.refl (lo hi : Nat) (d : Array α) : SwR lo hi (at! d) d d := ⟨rfl, permIn_refl _ _ _, fun _ => rfl⟩
theorem SwR.trans {lo hi lo' hi' : Nat} {F G : Nat → α} {d d' d'' : Array α} (h : SwR lo hi F d d') (k : SwR lo' hi' G d' d'') (h1 : lo ≤ lo') (h2 : hi' ≤ hi) (h3 : hi ≤ d.size) : SwR lo hi G d d'' :=
  ⟨k.size.trans h.size, permIn_trans _ _ _ _ _ h.perm (permIn_mono _ _ _ _ _ _ h1 h2 (by rw [h.size]; exact h3) k.perm), k.at'⟩
theorem SwR.step {lo hi a b n i : Nat} {d dj : Array α} (h : SwR lo hi (swF (at! d) a b i) d dj) (hi' : i < n) (hab : a + n ≤ b) (hb : b + n ≤ d.size) (h1 : lo ≤ a) (h2 : b + n ≤ hi) (h3 : hi ≤ d.size) :
    SwR lo hi (swF (at! d) a b (i + 1)) d (swp dj (a + i) (b + i)) := by
  have hs := h.size
  refine ⟨by rw [size_swp]; exact hs, permIn_trans _ _ _ _ _ h.perm (swp_permIn _ _ _ _ _ (by omega) (by omega) (by omega) (by omega) (by rw [hs]; exact h3)), fun x => ?_⟩
  by_cases e1 : x = a + i
  · subst e1
    rw [swp_left _ _ _ (by omega) (by omega), h.at']
    unfold swF
    repeat' split
    all_goals first | (exfalso; omega) | rfl | (congr 1; omega)
  · by_cases e2 : x = b + i
    · subst e2
      rw [swp_right _ _ _ (by omega), h.at']
      unfold swF
      repeat' split
      all_goals first | (exfalso; omega) | rfl | (congr 1; omega)
    · rw [swp_other _ _ _ _ e1 e2, h.at']
      unfold swF
      repeat' split
      all_goals first | (exfalso; omega) | rfl | (congr 1; omega)
end

/-- What a step of the sort leaves. -/
def SoGives {α : Type} [Inhabited α] (enc : α → Value) (w0 : World) (blk off : Nat) (R : Array α → Prop) (W : World) (e : Ending) (W' : World) : Prop :=
  e = .returned (.tuple #[]) ∧ ∃ d', R d' ∧ SW enc w0 blk off d' W' ∧ Tr [blk] W W'

abbrev soData (g : Nat) (lb : Array Value) (sf : Nat) (sb : Array Value) : Value := .agg #[.func (.func g) #[] lb, .func (.func sf) #[] sb]

section
variable {α : Type} [Inhabited α] {enc : α → Value} {lt : α → α → Bool} {g : Nat} {lb : Array Value} {sf : Nat} {sb : Array Value} {blk off size : Nat} {w0 : World}

set_option maxHeartbeats 2000000 in
theorem swapRange_func (S : SoSet enc lt g lb sf sb blk off size w0) (d : Array α) (W : World) (hSW : SW enc w0 blk off d W) (hs : d.size = size) (a b n lo hi : Nat) (h1 : a + n ≤ b) (h2 : b + n ≤ size) (hlo : lo ≤ a) (hhi : b + n ≤ hi) (hhs : hi ≤ size) :
    Calls Try.prog 86 #[soData g lb sf sb, .int .i64 a, .int .i64 b, .int .i64 n] W (SoGives enc w0 blk off (SwR lo hi (swF (at! d) a b n) d) W) := by
  have hlim := S.lim
  have hW := hSW.lt S.inn
  go_enter Try.func86, Try.ntmps86
  go_wp2
  go_loopw [8] (fun vi wr => ∃ (i : Nat) (dj : Array α), vi = .int .i64 i ∧ i ≤ n ∧ Hid (SW enc w0 blk off dj wr) ∧ Hid (SwR lo hi (swF (at! d) a b i) d dj) ∧ Hid (Tr [blk] (W.alloc (.cells #[.func (.func g) #[] lb, .func (.func sf) #[] sb] 76)) wr)) (fun vi _ => n - soInt vi)
  case atStart =>
    refine ⟨0, d, by simp, by omega, Lib.hid (hSW.alloc _), Lib.hid ?_, Lib.hid (Tr.refl _ _)⟩
    have e : swF (at! d) a b 0 = at! d := by funext x; unfold swF; rw [if_neg (by omega), if_neg (by omega)]
    rw [e]; exact SwR.refl _ _ _
  case round =>
    obtain ⟨i, dj, rfl, hi', hsw, hr, ht⟩ := hrel
    have c1 := (ht.out.cell (p := ⟨W.heap.size, 1, none⟩) (by simp) (by simp; omega)).trans (cell_cells (heap_new _ _) 1)
    simp at c1
    have hds := hr.out.size
    by_cases hlt : i < n
    · have hlt' : ((i : Int) < n) := by omega
      obtain ⟨d0, hH, hd0⟩ := S.holds
      have sw := S.swap wr dj (hsw.out.holds S.inn hH (by omega)) (by omega) (a + i) (b + i) (by omega) (by omega)
      have SWN := Lib.hid (hsw.out.swap S.inn (a + i) (b + i) (by omega) (by omega))
      have SR := Lib.hid (hr.out.step hlt h1 (by omega) hlo hhi (by omega))
      have TT := Lib.hid ((ht.out.setCell (p := ⟨blk, off + (a + i), none⟩) (.inl (by simp)) (enc dj[b + i]!)).setCell (p := ⟨blk, off + (b + i), none⟩) (.inl (by simp)) (enc dj[a + i]!))
      have e1 : ((a + i : Nat) : Int) = (a : Int) + i := by omega
      have e2 : ((b + i : Nat) : Int) = (b : Int) + i := by omega
      rw [e1, e2] at sw
      clear hSW hH hds e1 e2
      go_wp2
      go_roundw
      case rel => exact ⟨i + 1, _, by simp, by omega, SWN, SR, TT⟩
      case measure => simp only [soInt_int]; omega
    · obtain rfl : i = n := by omega
      go_wp2
      go_end0
      exact ⟨rfl, dj, hr.out, hsw.out, ((Tr.refl [blk] W).alloc _).trans ht.out (by simp)⟩

omit [Inhabited α] in
theorem rot1 {f : Nat → α} {i j m : Nat} (h : j < i) (hm : i ≤ m) (hj : 0 < j) : rotF (swF f (m - i) m j) (m - (i - j)) m (m + j) = rotF f (m - i) m (m + j) := by
  funext x
  unfold rotF swF
  repeat' split
  all_goals first | (exfalso; omega) | rfl | (congr 1; omega)
omit [Inhabited α] in
theorem rot2 {f : Nat → α} {i j m : Nat} (h : i < j) (hm : i ≤ m) (hj : 0 < i) : rotF (swF f (m - i) (m + j - i) i) (m - i) m (m + (j - i)) = rotF f (m - i) m (m + j) := by
  funext x
  unfold rotF swF
  repeat' split
  all_goals first | (exfalso; omega) | rfl | (congr 1; omega)
omit [Inhabited α] in
theorem rot3 {f : Nat → α} {i m : Nat} (hm : i ≤ m) : swF f (m - i) m i = rotF f (m - i) m (m + i) := by
  funext x
  unfold rotF swF
  repeat' split
  all_goals first | (exfalso; omega) | rfl | (congr 1; omega)

set_option maxRecDepth 100000 in
set_option maxHeartbeats 4000000 in
theorem rotate_func (S : SoSet enc lt g lb sf sb blk off size w0) (d : Array α) (W : World) (hSW : SW enc w0 blk off d W) (hs : d.size = size) (a m b : Nat) (h1 : a < m) (h2 : m < b) (h3 : b ≤ size) :
    Calls Try.prog 74 #[soData g lb sf sb, .int .i64 a, .int .i64 m, .int .i64 b] W (SoGives enc w0 blk off (SwR a b (rotF (at! d) a m b) d) W) := by
  have hlim := S.lim
  have hW := hSW.lt S.inn
  have C := fun (dj : Array α) (wr : World) (hw : Hid (SW enc w0 blk off dj wr)) (hd : dj.size = size) (p q n : Nat) (P : Int) (Q : Int) (N : Int) (e1 : P = p) (e2 : Q = q) (e3 : N = n) (k1 : p + n ≤ q) (k2 : q + n ≤ size) (k3 : a ≤ p) (k4 : q + n ≤ b) =>
    show Calls Try.prog 86 #[soData g lb sf sb, .int .i64 P, .int .i64 Q, .int .i64 N] wr (SoGives enc w0 blk off (SwR a b (swF (at! dj) p q n) dj) wr) by
      subst e1; subst e2; subst e3
      exact swapRange_func S dj wr hw.out hd p q n a b k1 k2 k3 k4 h3
  have HC := Lib.hid C
  clear C
  go_enter Try.func74, Try.ntmps74
  go_wp2
  go_loopw [8, 9] (fun vi vj wr => ∃ (i j : Nat) (dj : Array α), vi = .int .i64 i ∧ vj = .int .i64 j ∧ 0 < i ∧ 0 < j ∧ i + a ≤ m ∧ m + j ≤ b ∧ Hid (SW enc w0 blk off dj wr) ∧ Hid (SwR a b (at! dj) d dj ∧ rotF (at! dj) (m - i) m (m + j) = rotF (at! d) a m b) ∧
      Hid (Tr [blk] (W.alloc (.cells #[.func (.func g) #[] lb, .func (.func sf) #[] sb] 76)) wr)) (fun vi vj _ => soInt vi + soInt vj)
  case atStart =>
    refine ⟨m - a, b - m, d, ?_, ?_, by omega, by omega, by omega, by omega, Lib.hid (hSW.alloc _), Lib.hid ⟨SwR.refl _ _ _, ?_⟩, Lib.hid (Tr.refl _ _)⟩
    · congr 1; omega
    · congr 1; omega
    · rw [show m - (m - a) = a by omega, show m + (b - m) = b by omega]
  case round =>
    obtain ⟨i, j, dj, rfl, rfl, hi, hj, hia, hjb, hsw, hr, ht⟩ := hrel
    have c0 := (ht.out.cell (p := ⟨W.heap.size, 0, none⟩) (by simp) (by simp; omega)).trans (cell_cells (heap_new _ _) 0)
    have c1 := (ht.out.cell (p := ⟨W.heap.size, 1, none⟩) (by simp) (by simp; omega)).trans (cell_cells (heap_new _ _) 1)
    simp at c0 c1
    have hds : Hid (dj.size = size) := Lib.hid (hr.out.1.size.trans hs)
    clear hSW hs
    rcases Nat.lt_trichotomy j i with hc | hc | hc
    · have t1 : ((i : Int) == j) = false := beq_eq_false_iff_ne.2 (by omega)
      have t2 : decide ((j : Int) < i) = true := decide_eq_true (by omega)
      have K := HC.out dj wr hsw hds.out (m - i) m j ((m : Int) - i) m j (by omega) rfl rfl (by omega) (by omega) (by omega) (by omega)
      go_wp2_with (go_at_call 86; refine K.mono ?_; rintro e w5 ⟨rfl, d5, r5, s5, t5⟩; have R5 := Lib.hid r5; have S5 := Lib.hid s5; have T5 := Lib.hid t5; clear r5 s5 t5 K)
      go_roundw
      case rel =>
        refine ⟨i - j, j, d5, by congr 1; omega, rfl, by omega, hj, by omega, hjb, S5, Lib.hid ⟨?_, ?_⟩, Lib.hid (ht.out.trans T5.out (by simp))⟩
        · exact ⟨R5.out.size.trans hr.out.1.size, permIn_trans _ _ _ _ _ hr.out.1.perm R5.out.perm, fun _ => rfl⟩
        · rw [show at! d5 = swF (at! dj) (m - i) m j from funext R5.out.at', ← hr.out.2]
          exact rot1 hc (by omega) hj
      case measure => simp only [soInt_int]; omega
    · subst hc
      have t1 : ((j : Int) == j) = true := by simp
      have K := HC.out dj wr hsw hds.out (m - j) m j ((m : Int) - j) m j (by omega) rfl rfl (by omega) (by omega) (by omega) (by omega)
      go_wp2_with (go_at_call 86; refine K.mono ?_; rintro e w5 ⟨rfl, d5, r5, s5, t5⟩; have R5 := Lib.hid r5; have S5 := Lib.hid s5; have T5 := Lib.hid t5; clear r5 s5 t5 K)
      go_end0
      refine ⟨rfl, d5, ?_, S5.out, (((Tr.refl [blk] W).alloc _).trans ht.out (by simp)).trans T5.out (by simp)⟩
      refine ⟨R5.out.size.trans hr.out.1.size, permIn_trans _ _ _ _ _ hr.out.1.perm R5.out.perm, fun x => ?_⟩
      rw [R5.out.at', ← hr.out.2, rot3 (by omega)]
    · have t1 : ((i : Int) == j) = false := beq_eq_false_iff_ne.2 (by omega)
      have t2 : decide ((j : Int) < i) = false := decide_eq_false (by omega)
      have K := HC.out dj wr hsw hds.out (m - i) (m + j - i) i ((m : Int) - i) ((m : Int) + j - i) i (by omega) (by omega) rfl (by omega) (by omega) (by omega) (by omega)
      go_wp2_with (go_at_call 86; refine K.mono ?_; rintro e w5 ⟨rfl, d5, r5, s5, t5⟩; have R5 := Lib.hid r5; have S5 := Lib.hid s5; have T5 := Lib.hid t5; clear r5 s5 t5 K)
      go_roundw
      case rel =>
        refine ⟨i, j - i, d5, rfl, by congr 1; omega, hi, by omega, hia, by omega, S5, Lib.hid ⟨?_, ?_⟩, Lib.hid (ht.out.trans T5.out (by simp))⟩
        · exact ⟨R5.out.size.trans hr.out.1.size, permIn_trans _ _ _ _ _ hr.out.1.perm R5.out.perm, fun _ => rfl⟩
        · rw [show at! d5 = swF (at! dj) (m - i) (m + j - i) i from funext R5.out.at', ← hr.out.2]
          exact rot2 hc (by omega) hi
      case measure => simp only [soInt_int]; omega
end
end Go.Proofs.Ytncnkfjddolabaa
