/- The stable sort: symMerge_func, walked over the plain law of the merge. -/
import Derived.Test.YtncnkfjddolabaaSm
set_option linter.unusedVariables false
set_option linter.unusedSimpArgs false
namespace Go.Proofs.Ytncnkfjddolabaa
open Go Go.RowKit Go.Shelf Go.Lib Go.Sort

section
variable {α : Type} [Inhabited α] {enc : α → Value} {lt : α → α → Bool} {g : Nat} {lb : Array Value} {sf : Nat} {sb : Array Value} {blk off size : Nat} {w0 : World}

theorem SoSet.lessAt (S : SoSet enc lt g lb sf sb blk off size w0) {d : Array α} {W : World} (h : SW enc w0 blk off d W) (hs : d.size = size) (i j : Nat) (I J : Int) (hi : i < size) (hj : j < size) (eI : I = i) (eJ : J = j) :
    Calls Try.prog g (#[.int .i64 I, .int .i64 J] ++ lb) W fun e w' => e = .returned (.bool (lt d[i]! d[j]!)) ∧ ∃ q, w' = W.drewN q := by
  subst eI; subst eJ
  exact h.less S.less hs i j hi hj
theorem SoSet.swapAt (S : SoSet enc lt g lb sf sb blk off size w0) {d : Array α} {W : World} (h : SW enc w0 blk off d W) (hs : d.size = size) (i j : Nat) (I J : Int) (hi : i < size) (hj : j < size) (eI : I = i) (eJ : J = j) :
    (callFunc sf (#[.int .i64 I, .int .i64 J] ++ sb)).run Try.prog W = .ok (.value (.tuple #[])) ((W.setCell ⟨blk, off + i, none⟩ (enc d[j]!)).setCell ⟨blk, off + j, none⟩ (enc d[i]!)) := by
  subst eI; subst eJ
  obtain ⟨d0, hH, hd0⟩ := S.holds
  exact S.swap W d (h.holds S.inn hH (by omega)) hs i j hi hj

set_option maxRecDepth 100000 in
set_option maxHeartbeats 8000000 in
/-- One against many. -/
theorem sym_left (hS : SWO lt) (S : SoSet enc lt g lb sf sb blk off size w0) (d : Array α) (W : World) (hSW : SW enc w0 blk off d W) (hs : d.size = size) (a b : Nat) (h1 : a + 1 < b) (h2 : b ≤ size) (Sb : SF lt (at! d) (a + 1) b) :
    Calls Try.prog 64 #[soData g lb sf sb, .int .i64 a, .int .i64 ((a : Int) + 1), .int .i64 b] W (SoGives enc w0 blk off (Merged lt a b d) W) := by
  have hlim := S.lim
  have hW := hSW.lt S.inn
  have eg := S.eg
  have t1 : ((a : Int) + 1 - a == 1) = true := by rw [beq_iff_eq]; omega
  have HSS := Lib.hid S
  have HO := Lib.hid hS
  have HB := Lib.hid Sb
  clear S hS Sb
  go_enter Try.func64, Try.ntmps64
  go_wp2
  go_loopw [8, 9] (fun vi vj wr => ∃ (i j : Nat), vi = .int .i64 i ∧ vj = .int .i64 j ∧ Hid (Srch (q1 lt (at! d) a) (a + 1) b i j) ∧ Hid (SW enc w0 blk off d wr) ∧
      Hid (Tr [blk] (W.alloc (.cells #[.func (.func g) #[] lb, .func (.func sf) #[] sb] 76)) wr)) (fun vi vj _ => soInt vj - soInt vi)
  case atStart => exact ⟨a + 1, b, by simp, rfl, Lib.hid (Srch.start (by omega)), Lib.hid (hSW.alloc _), Lib.hid (Tr.refl _ _)⟩
  case round =>
    obtain ⟨i, j, rfl, rfl, hq, hsw, ht⟩ := hrel
    have c0 := (ht.out.cell (p := ⟨W.heap.size, 0, none⟩) (by simp) (by simp; omega)).trans (cell_cells (heap_new _ _) 0)
    have c1 := (ht.out.cell (p := ⟨W.heap.size, 1, none⟩) (by simp) (by simp; omega)).trans (cell_cells (heap_new _ _) 1)
    simp at c0 c1
    have b1 := hq.out.a
    have b2 := hq.out.b
    have b3 := hq.out.c
    by_cases hlt : i < j
    · have hlt' : ((i : Int) < j) := by omega
      obtain ⟨h, hh⟩ : ∃ h : Nat, h = (i + j) / 2 := ⟨_, rfl⟩
      have L := HSS.out.lessAt hsw.out hs h a (((i : Int) + j) / 2) a (by omega) (by omega) (by omega) rfl
      have HH := Lib.hid hh
      cases hv : lt d[h]! d[a]! with
      | true =>
        rw [hv] at L
        have HQ := Lib.hid (hq.out.up (q1_falls HO.out HB.out a) (h := h) (by omega) (by omega) hv)
        clear hv hh hs hSW
        go_wp2_with (go_at_fn g; refine L.mono ?_; rintro e w' ⟨rfl, q, rfl⟩)
        go_roundw
        case rel => exact ⟨h + 1, j, by congr 1; have := HH.out; omega, rfl, HQ, Lib.hid (hsw.out.drewN q), Lib.hid (ht.out.drewN q)⟩
        case measure => have := HH.out; simp only [soInt_int]; omega
      | false =>
        rw [hv] at L
        have HQ := Lib.hid (hq.out.down (q1_falls HO.out HB.out a) (h := h) (by omega) (by omega) hv)
        clear hv hh hs hSW
        go_wp2_with (go_at_fn g; refine L.mono ?_; rintro e w' ⟨rfl, q, rfl⟩)
        go_roundw
        case rel => exact ⟨i, h, rfl, by congr 1; have := HH.out; omega, HQ, Lib.hid (hsw.out.drewN q), Lib.hid (ht.out.drewN q)⟩
        case measure => have := HH.out; simp only [soInt_int]; omega
    · obtain rfl : i = j := by omega
      have hz := Lib.hid hs
      clear hs
      go_wp2
      go_loopw [11] (fun vk wr2 => ∃ (k : Nat) (dk : Array α), vk = .int .i64 k ∧ a ≤ k ∧ k + 1 ≤ i ∧ Hid (SW enc w0 blk off dk wr2) ∧ Hid (SwR a b (rotF (at! d) a (a + 1) (k + 1)) d dk) ∧
          Hid (Tr [blk] (W.alloc (.cells #[.func (.func g) #[] lb, .func (.func sf) #[] sb] 76)) wr2)) (fun vk _ => i - soInt vk)
      case atStart =>
        refine ⟨a, d, rfl, Nat.le_refl _, b1, hsw, Lib.hid ?_, ht⟩
        rw [rot_id _ _ _ _ (.inr rfl) (by omega) (Nat.le_refl _)]
        exact SwR.refl _ _ _
      case round =>
        obtain ⟨k, dk, rfl, hak, hki, hsw2, hr, ht2⟩ := hrel
        have c3 := (ht2.out.cell (p := ⟨W.heap.size, 1, none⟩) (by simp) (by simp; omega)).trans (cell_cells (heap_new _ _) 1)
        simp at c3
        clear c0 c1
        by_cases hlt2 : k + 1 < i
        · have hlt' : ((k : Int) < i - 1) := by omega
          have sw := HSS.out.swapAt hsw2.out (hr.out.size.trans hz.out) k (k + 1) k ((k : Int) + 1) (by omega) (by omega) rfl (by omega)
          have SWN := Lib.hid (hsw2.out.swap HSS.out.inn k (k + 1) (by rw [hr.out.size, hz.out]; omega) (by rw [hr.out.size, hz.out]; omega))
          have SR := Lib.hid (hr.out.along hak (Nat.le_refl _) (by omega) (by rw [hz.out]; exact h2))
          have TT := Lib.hid ((ht2.out.setCell (p := ⟨blk, off + k, none⟩) (.inl (by simp)) (enc dk[k + 1]!)).setCell (p := ⟨blk, off + (k + 1), none⟩) (.inl (by simp)) (enc dk[k]!))
          clear hSW
          go_wp2
          go_roundw
          case rel => exact ⟨k + 1, _, by simp, by omega, by omega, SWN, SR, TT⟩
          case measure => simp only [soInt_int]; omega
        · have hlt' : ¬ ((k : Int) < i - 1) := by omega
          obtain rfl : i = k + 1 := by omega
          clear hSW
          go_wp2
          go_end0
          exact ⟨rfl, dk, Merged.of hr.out (one_left HO.out HB.out hq.out), hsw2.out, ((Tr.refl [blk] W).alloc _).trans ht2.out (by simp)⟩

set_option maxRecDepth 100000 in
set_option maxHeartbeats 8000000 in
/-- Many against one. -/
theorem sym_right (hS : SWO lt) (S : SoSet enc lt g lb sf sb blk off size w0) (d : Array α) (W : World) (hSW : SW enc w0 blk off d W) (hs : d.size = size) (a m : Nat) (h1 : a + 1 < m) (h2 : m + 1 ≤ size) (Sa : SF lt (at! d) a m) :
    Calls Try.prog 64 #[soData g lb sf sb, .int .i64 a, .int .i64 m, .int .i64 ((m : Int) + 1)] W (SoGives enc w0 blk off (Merged lt a (m + 1) d) W) := by
  have hlim := S.lim
  have hW := hSW.lt S.inn
  have eg := S.eg
  have t0 : ((m : Int) - a == 1) = false := beq_eq_false_iff_ne.2 (by omega)
  have t1 : ((m : Int) + 1 - m == 1) = true := by rw [beq_iff_eq]; omega
  have HSS := Lib.hid S
  have HO := Lib.hid hS
  have HB := Lib.hid Sa
  clear S hS Sa
  go_enter Try.func64, Try.ntmps64
  go_wp2
  go_loopw [12, 13] (fun vi vj wr => ∃ (i j : Nat), vi = .int .i64 i ∧ vj = .int .i64 j ∧ Hid (Srch (q2 lt (at! d) m) a m i j) ∧ Hid (SW enc w0 blk off d wr) ∧
      Hid (Tr [blk] (W.alloc (.cells #[.func (.func g) #[] lb, .func (.func sf) #[] sb] 76)) wr)) (fun vi vj _ => soInt vj - soInt vi)
  case atStart => exact ⟨a, m, rfl, rfl, Lib.hid (Srch.start (by omega)), Lib.hid (hSW.alloc _), Lib.hid (Tr.refl _ _)⟩
  case round =>
    obtain ⟨i, j, rfl, rfl, hq, hsw, ht⟩ := hrel
    have c0 := (ht.out.cell (p := ⟨W.heap.size, 0, none⟩) (by simp) (by simp; omega)).trans (cell_cells (heap_new _ _) 0)
    have c1 := (ht.out.cell (p := ⟨W.heap.size, 1, none⟩) (by simp) (by simp; omega)).trans (cell_cells (heap_new _ _) 1)
    simp at c0 c1
    have b1 := hq.out.a
    have b2 := hq.out.b
    have b3 := hq.out.c
    by_cases hlt : i < j
    · have hlt' : ((i : Int) < j) := by omega
      obtain ⟨h, hh⟩ : ∃ h : Nat, h = (i + j) / 2 := ⟨_, rfl⟩
      have L := HSS.out.lessAt hsw.out hs m h m (((i : Int) + j) / 2) (by omega) (by omega) rfl (by omega)
      have HH := Lib.hid hh
      cases hv : lt d[m]! d[h]! with
      | false =>
        rw [hv] at L
        have HQ := Lib.hid (hq.out.up (q2_falls HO.out HB.out m) (h := h) (by omega) (by omega) (by simp only [q2]; rw [show lt (at! d m) (at! d h) = false from hv]; rfl))
        clear hv hh hs hSW
        go_wp2_with (go_at_fn g; refine L.mono ?_; rintro e w' ⟨rfl, q, rfl⟩)
        go_roundw
        case rel => exact ⟨h + 1, j, by congr 1; have := HH.out; omega, rfl, HQ, Lib.hid (hsw.out.drewN q), Lib.hid (ht.out.drewN q)⟩
        case measure => have := HH.out; simp only [soInt_int]; omega
      | true =>
        rw [hv] at L
        have HQ := Lib.hid (hq.out.down (q2_falls HO.out HB.out m) (h := h) (by omega) (by omega) (by simp only [q2]; rw [show lt (at! d m) (at! d h) = true from hv]; rfl))
        clear hv hh hs hSW
        go_wp2_with (go_at_fn g; refine L.mono ?_; rintro e w' ⟨rfl, q, rfl⟩)
        go_roundw
        case rel => exact ⟨i, h, rfl, by congr 1; have := HH.out; omega, HQ, Lib.hid (hsw.out.drewN q), Lib.hid (ht.out.drewN q)⟩
        case measure => have := HH.out; simp only [soInt_int]; omega
    · obtain rfl : i = j := by omega
      have hz := Lib.hid hs
      clear hs
      go_wp2
      go_loopw [15] (fun vk wr2 => ∃ (k : Nat) (dk : Array α), vk = .int .i64 k ∧ i ≤ k ∧ k ≤ m ∧ Hid (SW enc w0 blk off dk wr2) ∧ Hid (SwR a (m + 1) (rotF (at! d) k m (m + 1)) d dk) ∧
          Hid (Tr [blk] (W.alloc (.cells #[.func (.func g) #[] lb, .func (.func sf) #[] sb] 76)) wr2)) (fun vk _ => soInt vk)
      case atStart =>
        refine ⟨m, d, rfl, by omega, Nat.le_refl _, hsw, Lib.hid ?_, ht⟩
        rw [rot_id _ _ _ _ (.inl rfl) (Nat.le_refl _) (by omega)]
        exact SwR.refl _ _ _
      case round =>
        obtain ⟨k, dk, rfl, hak, hki, hsw2, hr, ht2⟩ := hrel
        have c3 := (ht2.out.cell (p := ⟨W.heap.size, 1, none⟩) (by simp) (by simp; omega)).trans (cell_cells (heap_new _ _) 1)
        simp at c3
        clear c0 c1
        by_cases hlt2 : i < k
        · have hlt' : ((i : Int) < k) := by omega
          obtain ⟨k, rfl⟩ : ∃ k', k = k' + 1 := ⟨k - 1, by omega⟩
          have sw := HSS.out.swapAt hsw2.out (hr.out.size.trans hz.out) (k + 1) k ((k : Int) + 1) k (by omega) (by omega) (by omega) rfl
          have SWN := Lib.hid (hsw2.out.swap HSS.out.inn (k + 1) k (by rw [hr.out.size, hz.out]; omega) (by rw [hr.out.size, hz.out]; omega))
          have SR := Lib.hid (hr.out.back hki (by omega) (by omega) (by rw [hz.out]; exact h2))
          have TT := Lib.hid ((ht2.out.setCell (p := ⟨blk, off + (k + 1), none⟩) (.inl (by simp)) (enc dk[k]!)).setCell (p := ⟨blk, off + k, none⟩) (.inl (by simp)) (enc dk[k + 1]!))
          clear hSW
          go_wp2
          go_roundw
          case rel => exact ⟨k, _, by first | rfl | (congr 1; omega), by omega, by omega, SWN, SR, TT⟩
          case measure => simp only [soInt_int]; omega
        · have hlt' : ¬ ((i : Int) < k) := by omega
          obtain rfl : i = k := by omega
          clear hSW
          go_wp2
          go_end0
          exact ⟨rfl, dk, Merged.of hr.out (one_right HO.out (by omega) HB.out hq.out), hsw2.out, ((Tr.refl [blk] W).alloc _).trans ht2.out (by simp)⟩

set_option maxRecDepth 100000 in
set_option maxHeartbeats 16000000 in
/-- Many against many, the lesser ones merged already by the same function. -/
theorem sym_both (hS : SWO lt) (S : SoSet enc lt g lb sf sb blk off size w0) (d : Array α) (W : World) (hSW : SW enc w0 blk off d W) (hs : d.size = size) (a m b : Nat) (h1 : a + 1 < m) (h2 : m + 1 < b) (h3 : b ≤ size) (Sa : SF lt (at! d) a m) (Sb : SF lt (at! d) m b)
    (ih : ∀ (d' : Array α) (W' : World) (a' m' b' : Nat), SW enc w0 blk off d' W' → d'.size = size → a' < m' → m' < b' → b' ≤ size → b' - a' < b - a → SF lt (at! d') a' m' → SF lt (at! d') m' b' →
      Calls Try.prog 64 #[soData g lb sf sb, .int .i64 a', .int .i64 m', .int .i64 b'] W' (SoGives enc w0 blk off (Merged lt a' b' d') W')) :
    Calls Try.prog 64 #[soData g lb sf sb, .int .i64 a, .int .i64 m, .int .i64 b] W (SoGives enc w0 blk off (Merged lt a b d) W) := by
  have hlim := S.lim
  have hW := hSW.lt S.inn
  have eg := S.eg
  have t0 : ((m : Int) - a == 1) = false := beq_eq_false_iff_ne.2 (by omega)
  have t1 : ((b : Int) - m == 1) = false := beq_eq_false_iff_ne.2 (by omega)
  obtain ⟨mid, hmid⟩ : ∃ mid : Nat, mid = (a + b) / 2 := ⟨_, rfl⟩
  obtain ⟨lo, hlo⟩ : ∃ lo : Nat, lo = if mid < m then mid + m - b else a := ⟨_, rfl⟩
  obtain ⟨hi, hhi⟩ : ∃ hi : Nat, hi = if mid < m then mid else m := ⟨_, rfl⟩
  have em : ((a : Int) + b) / 2 = mid := by omega
  have bm : a < mid ∧ mid < b := by omega
  have HM := Lib.hid hmid
  have HLO := Lib.hid hlo
  have HHI := Lib.hid hhi
  have HSS := Lib.hid S
  have HO := Lib.hid hS
  have HA := Lib.hid Sa
  have HB := Lib.hid Sb
  have HI := Lib.hid ih
  have hz := Lib.hid hs
  have HW := Lib.hid hSW
  have bl : lo ≤ hi ∧ hi ≤ m ∧ hi ≤ mid ∧ a ≤ lo ∧ mid + m ≤ lo + b ∧ m + hi ≤ mid + m := by
    by_cases c : mid < m
    · rw [if_pos c] at hlo hhi; omega
    · rw [if_neg c] at hlo hhi; omega
  have way : (mid < m ∧ lo = mid + m - b ∧ hi = mid) ∨ (¬ mid < m ∧ lo = a ∧ hi = m) := by
    by_cases c : mid < m
    · rw [if_pos c] at hlo hhi; exact .inl ⟨c, hlo, hhi⟩
    · rw [if_neg c] at hlo hhi; exact .inr ⟨c, hlo, hhi⟩
  obtain ⟨s1, s2⟩ := bm
  obtain ⟨s3, s4, s5, s6, s7, s8⟩ := bl
  clear S hS Sa Sb ih hs hSW hmid hlo hhi
  rcases way with ⟨c, w1, w2⟩ | ⟨c, w1, w2⟩
  all_goals
    go_enter Try.func64, Try.ntmps64
    go_wp2
    go_loopw [18, 19] (fun vi vj wr => ∃ (i j : Nat), vi = .int .i64 i ∧ vj = .int .i64 j ∧ Hid (Srch (q3 lt (at! d) (mid + m - 1)) lo hi i j) ∧ Hid (SW enc w0 blk off d wr) ∧
        Hid (Tr [blk] (W.alloc (.cells #[.func (.func g) #[] lb, .func (.func sf) #[] sb] 76)) wr)) (fun vi vj _ => soInt vj - soInt vi)
    case atStart => exact ⟨lo, hi, by congr 1; omega, by congr 1; omega, Lib.hid (Srch.start s3), Lib.hid (HW.out.alloc _), Lib.hid (Tr.refl _ _)⟩
    case round =>
      obtain ⟨i, j, rfl, rfl, hq, hsw, ht⟩ := hrel
      have c0 := (ht.out.cell (p := ⟨W.heap.size, 0, none⟩) (by simp) (by simp; omega)).trans (cell_cells (heap_new _ _) 0)
      have c1 := (ht.out.cell (p := ⟨W.heap.size, 1, none⟩) (by simp) (by simp; omega)).trans (cell_cells (heap_new _ _) 1)
      simp at c0 c1
      have b1 := hq.out.a
      have b2 := hq.out.b
      have b3 := hq.out.c
      by_cases hlt : i < j
      · have hlt' : ((i : Int) < j) := by omega
        obtain ⟨h, hh⟩ : ∃ h : Nat, h = (i + j) / 2 := ⟨_, rfl⟩
        have L := HSS.out.lessAt hsw.out hz.out (mid + m - 1 - h) h ((mid : Int) + m - 1 - ((i : Int) + j) / 2) (((i : Int) + j) / 2) (by omega) (by omega) (by omega) (by omega)
        have HH := Lib.hid hh
        have M := q3_falls HO.out (p := mid + m - 1) (lo := lo) (hi := hi) HA.out HB.out (by omega) (by omega) (by omega) (by omega)
        cases hv : lt d[mid + m - 1 - h]! d[h]! with
        | false =>
          rw [hv] at L
          have HQ := Lib.hid (hq.out.up M (h := h) (by omega) (by omega) (by simp only [q3]; rw [show lt (at! d (mid + m - 1 - h)) (at! d h) = false from hv]; rfl))
          clear hv hh M w1 w2
          go_wp2_with (go_at_fn g; refine L.mono ?_; rintro e w' ⟨rfl, q, rfl⟩)
          go_roundw
          case rel => exact ⟨h + 1, j, by congr 1; have := HH.out; omega, rfl, HQ, Lib.hid (hsw.out.drewN q), Lib.hid (ht.out.drewN q)⟩
          case measure => have := HH.out; simp only [soInt_int]; omega
        | true =>
          rw [hv] at L
          have HQ := Lib.hid (hq.out.down M (h := h) (by omega) (by omega) (by simp only [q3]; rw [show lt (at! d (mid + m - 1 - h)) (at! d h) = true from hv]; rfl))
          clear hv hh M w1 w2
          go_wp2_with (go_at_fn g; refine L.mono ?_; rintro e w' ⟨rfl, q, rfl⟩)
          go_roundw
          case rel => exact ⟨i, h, rfl, by congr 1; have := HH.out; omega, HQ, Lib.hid (hsw.out.drewN q), Lib.hid (ht.out.drewN q)⟩
          case measure => have := HH.out; simp only [soInt_int]; omega
      · obtain rfl : i = j := by omega
        obtain ⟨f1, f2, f3, f4, f5, f6, F⟩ := many_many HM.out (by omega) (by omega) HLO.out HHI.out HA.out HB.out HO.out hq.out
        obtain ⟨e, he⟩ : ∃ e : Nat, e = mid + m - i := ⟨_, rfl⟩
        have ee : (mid : Int) + m - i = e := by omega
        rw [← he] at F f3 f4 f6
        have HF := Lib.hid F
        clear F w1 w2
        by_cases xA : i < m <;> by_cases xB : i < mid
        · have xE : m < e := by omega
          have xG : mid < e := by omega
          clear he
          by_cases xC : a < i <;> by_cases xD : e < b
          · have K5 := rotate_func HSS.out d wr hsw.out hz.out i m e xA xE (by omega)
            go_wp2_with (first
              | (go_at_call 64; have K7 := HI.out d6 w6 mid e b S6.out Z6.out xG xD h3 (by omega) (SF.congr (f := at! d5) H5.out.p3 fun x x1 x2 => permIn_out R6.out.perm (.inr x1)) (SF.congr (f := at! d5) H5.out.p4 fun x x1 x2 => permIn_out R6.out.perm (.inr (by omega))); refine K7.mono ?_; rintro e' w7 ⟨rfl, d7, r7, s7, t7⟩; have R7 := Lib.hid r7; have S7 := Lib.hid s7; have T7 := Lib.hid (T6.out.trans t7 (by simp)); clear r7 s7 t7 K7)
              | (go_at_call 74; refine K5.mono ?_; rintro e' w5 ⟨rfl, d5, r5, s5, t5⟩; have Z5 := Lib.hid (r5.size.trans hz.out); have R5 := Lib.hid r5; have S5 := Lib.hid s5; have T5 := Lib.hid (ht.out.trans t5 (by simp)); have H5 := Lib.hid (HF.out.of_rot r5); clear r5 s5 t5 K5; have c0 := (T5.out.cell (p := ⟨W.heap.size, 0, none⟩) (by simp) (by simp; omega)).trans (cell_cells (heap_new _ _) 0); have c1 := (T5.out.cell (p := ⟨W.heap.size, 1, none⟩) (by simp) (by simp; omega)).trans (cell_cells (heap_new _ _) 1); simp at c0 c1)
              | (go_at_call 64; have K6 := HI.out d5 w5 a i mid S5.out Z5.out xC xB (by omega) (by omega) H5.out.p1 H5.out.p2; refine K6.mono ?_; rintro e' w6 ⟨rfl, d6, r6, s6, t6⟩; have Z6 := Lib.hid (r6.size.trans Z5.out); have R6 := Lib.hid r6; have S6 := Lib.hid s6; have T6 := Lib.hid (T5.out.trans t6 (by simp)); clear r6 s6 t6 K6; have c0 := (T6.out.cell (p := ⟨W.heap.size, 0, none⟩) (by simp) (by simp; omega)).trans (cell_cells (heap_new _ _) 0); have c1 := (T6.out.cell (p := ⟨W.heap.size, 1, none⟩) (by simp) (by simp; omega)).trans (cell_cells (heap_new _ _) 1); simp at c0 c1))
            go_end0
            exact ⟨rfl, d7, sym_join (mid := mid) R5.out.size (permIn_mono _ _ _ _ _ _ (by omega) (by omega) (by rw [hz.out]; exact h3) R5.out.perm) H5.out.le R6.out R7.out (by omega) (by omega) (by rw [hz.out]; exact h3), S7.out, ((Tr.refl [blk] W).alloc _).trans T7.out (by simp)⟩
          · have K5 := rotate_func HSS.out d wr hsw.out hz.out i m e xA xE (by omega)
            go_wp2_with (first
              | (go_at_call 74; refine K5.mono ?_; rintro e' w5 ⟨rfl, d5, r5, s5, t5⟩; have Z5 := Lib.hid (r5.size.trans hz.out); have R5 := Lib.hid r5; have S5 := Lib.hid s5; have T5 := Lib.hid (ht.out.trans t5 (by simp)); have H5 := Lib.hid (HF.out.of_rot r5); clear r5 s5 t5 K5; have c0 := (T5.out.cell (p := ⟨W.heap.size, 0, none⟩) (by simp) (by simp; omega)).trans (cell_cells (heap_new _ _) 0); have c1 := (T5.out.cell (p := ⟨W.heap.size, 1, none⟩) (by simp) (by simp; omega)).trans (cell_cells (heap_new _ _) 1); simp at c0 c1)
              | (go_at_call 64; have K6 := HI.out d5 w5 a i mid S5.out Z5.out xC xB (by omega) (by omega) H5.out.p1 H5.out.p2; refine K6.mono ?_; rintro e' w6 ⟨rfl, d6, r6, s6, t6⟩; have Z6 := Lib.hid (r6.size.trans Z5.out); have R6 := Lib.hid r6; have S6 := Lib.hid s6; have T6 := Lib.hid (T5.out.trans t6 (by simp)); clear r6 s6 t6 K6; have c0 := (T6.out.cell (p := ⟨W.heap.size, 0, none⟩) (by simp) (by simp; omega)).trans (cell_cells (heap_new _ _) 0); have c1 := (T6.out.cell (p := ⟨W.heap.size, 1, none⟩) (by simp) (by simp; omega)).trans (cell_cells (heap_new _ _) 1); simp at c0 c1))
            go_end0
            exact ⟨rfl, d6, sym_join (mid := mid) R5.out.size (permIn_mono _ _ _ _ _ _ (by omega) (by omega) (by rw [hz.out]; exact h3) R5.out.perm) H5.out.le R6.out (Merged.same (SF.congr (f := at! d5) (H5.out.right (by omega) (by omega) (by omega)) fun x x1 x2 => permIn_out R6.out.perm (.inr x1))) (by omega) (by omega) (by rw [hz.out]; exact h3), S6.out, ((Tr.refl [blk] W).alloc _).trans T6.out (by simp)⟩
          · have K5 := rotate_func HSS.out d wr hsw.out hz.out i m e xA xE (by omega)
            go_wp2_with (first
              | (go_at_call 74; refine K5.mono ?_; rintro e' w5 ⟨rfl, d5, r5, s5, t5⟩; have Z5 := Lib.hid (r5.size.trans hz.out); have R5 := Lib.hid r5; have S5 := Lib.hid s5; have T5 := Lib.hid (ht.out.trans t5 (by simp)); have H5 := Lib.hid (HF.out.of_rot r5); clear r5 s5 t5 K5; have c0 := (T5.out.cell (p := ⟨W.heap.size, 0, none⟩) (by simp) (by simp; omega)).trans (cell_cells (heap_new _ _) 0); have c1 := (T5.out.cell (p := ⟨W.heap.size, 1, none⟩) (by simp) (by simp; omega)).trans (cell_cells (heap_new _ _) 1); simp at c0 c1)
              | (go_at_call 64; have K7 := HI.out d5 w5 mid e b S5.out Z5.out xG xD h3 (by omega) H5.out.p3 H5.out.p4; refine K7.mono ?_; rintro e' w7 ⟨rfl, d7, r7, s7, t7⟩; have R7 := Lib.hid r7; have S7 := Lib.hid s7; have T7 := Lib.hid (T5.out.trans t7 (by simp)); clear r7 s7 t7 K7))
            go_end0
            exact ⟨rfl, d7, sym_join (mid := mid) R5.out.size (permIn_mono _ _ _ _ _ _ (by omega) (by omega) (by rw [hz.out]; exact h3) R5.out.perm) H5.out.le (Merged.same (H5.out.left (by omega) (by omega) (by omega))) R7.out (by omega) (by omega) (by rw [hz.out]; exact h3), S7.out, ((Tr.refl [blk] W).alloc _).trans T7.out (by simp)⟩
          · have K5 := rotate_func HSS.out d wr hsw.out hz.out i m e xA xE (by omega)
            go_wp2_with (first
              | (go_at_call 74; refine K5.mono ?_; rintro e' w5 ⟨rfl, d5, r5, s5, t5⟩; have Z5 := Lib.hid (r5.size.trans hz.out); have R5 := Lib.hid r5; have S5 := Lib.hid s5; have T5 := Lib.hid (ht.out.trans t5 (by simp)); have H5 := Lib.hid (HF.out.of_rot r5); clear r5 s5 t5 K5; have c0 := (T5.out.cell (p := ⟨W.heap.size, 0, none⟩) (by simp) (by simp; omega)).trans (cell_cells (heap_new _ _) 0); have c1 := (T5.out.cell (p := ⟨W.heap.size, 1, none⟩) (by simp) (by simp; omega)).trans (cell_cells (heap_new _ _) 1); simp at c0 c1))
            go_end0
            exact ⟨rfl, d5, sym_join (mid := mid) R5.out.size (permIn_mono _ _ _ _ _ _ (by omega) (by omega) (by rw [hz.out]; exact h3) R5.out.perm) H5.out.le (Merged.same (H5.out.left (by omega) (by omega) (by omega))) (Merged.same (H5.out.right (by omega) (by omega) (by omega))) (by omega) (by omega) (by rw [hz.out]; exact h3), S5.out, ((Tr.refl [blk] W).alloc _).trans T5.out (by simp)⟩
        · have xE : ¬ m < e := by omega
          have xG : mid < e := by omega
          clear he
          have hxx : a < i := by omega
          by_cases xD : e < b
          · have H5 := Lib.hid (HF.out.of_id (by omega) (by omega) (by omega))
            go_wp2_with (first
              | (go_at_call 64; have K7 := HI.out d wr mid e b hsw.out hz.out xG xD h3 (by omega) H5.out.p3 H5.out.p4; refine K7.mono ?_; rintro e' w7 ⟨rfl, d7, r7, s7, t7⟩; have R7 := Lib.hid r7; have S7 := Lib.hid s7; have T7 := Lib.hid (ht.out.trans t7 (by simp)); clear r7 s7 t7 K7))
            go_end0
            exact ⟨rfl, d7, sym_join (mid := mid) rfl (permIn_refl _ _ _) H5.out.le (Merged.same (H5.out.left (by omega) (by omega) (by omega))) R7.out (by omega) (by omega) (by rw [hz.out]; exact h3), S7.out, ((Tr.refl [blk] W).alloc _).trans T7.out (by simp)⟩
          · have H5 := Lib.hid (HF.out.of_id (by omega) (by omega) (by omega))
            go_wp2
            go_end0
            exact ⟨rfl, d, sym_join (mid := mid) rfl (permIn_refl _ _ _) H5.out.le (Merged.same (H5.out.left (by omega) (by omega) (by omega))) (Merged.same (H5.out.right (by omega) (by omega) (by omega))) (by omega) (by omega) (by rw [hz.out]; exact h3), hsw.out, ((Tr.refl [blk] W).alloc _).trans ht.out (by simp)⟩
        · have xE : m < e := by omega
          have xG : ¬ mid < e := by omega
          clear he
          by_cases xC : a < i
          · have H5 := Lib.hid (HF.out.of_id (by omega) (by omega) (by omega))
            go_wp2_with (first
              | (go_at_call 64; have K6 := HI.out d wr a i mid hsw.out hz.out xC xB (by omega) (by omega) H5.out.p1 H5.out.p2; refine K6.mono ?_; rintro e' w6 ⟨rfl, d6, r6, s6, t6⟩; have Z6 := Lib.hid (r6.size.trans hz.out); have R6 := Lib.hid r6; have S6 := Lib.hid s6; have T6 := Lib.hid (ht.out.trans t6 (by simp)); clear r6 s6 t6 K6; have c0 := (T6.out.cell (p := ⟨W.heap.size, 0, none⟩) (by simp) (by simp; omega)).trans (cell_cells (heap_new _ _) 0); have c1 := (T6.out.cell (p := ⟨W.heap.size, 1, none⟩) (by simp) (by simp; omega)).trans (cell_cells (heap_new _ _) 1); simp at c0 c1))
            go_end0
            exact ⟨rfl, d6, sym_join (mid := mid) rfl (permIn_refl _ _ _) H5.out.le R6.out (Merged.same (SF.congr (f := at! d) (H5.out.right (by omega) (by omega) (by omega)) fun x x1 x2 => permIn_out R6.out.perm (.inr x1))) (by omega) (by omega) (by rw [hz.out]; exact h3), S6.out, ((Tr.refl [blk] W).alloc _).trans T6.out (by simp)⟩
          · have H5 := Lib.hid (HF.out.of_id (by omega) (by omega) (by omega))
            go_wp2
            go_end0
            exact ⟨rfl, d, sym_join (mid := mid) rfl (permIn_refl _ _ _) H5.out.le (Merged.same (H5.out.left (by omega) (by omega) (by omega))) (Merged.same (H5.out.right (by omega) (by omega) (by omega))) (by omega) (by omega) (by rw [hz.out]; exact h3), hsw.out, ((Tr.refl [blk] W).alloc _).trans ht.out (by simp)⟩
        · have xE : ¬ m < e := by omega
          have xG : ¬ mid < e := by omega
          clear he
          have H5 := Lib.hid (HF.out.of_id (by omega) (by omega) (by omega))
          first | (exfalso; omega) | (go_wp2; go_end0; exact ⟨rfl, d, sym_join (mid := mid) rfl (permIn_refl _ _ _) H5.out.le (Merged.same (H5.out.left (by omega) (by omega) (by omega))) (Merged.same (H5.out.right (by omega) (by omega) (by omega))) (by omega) (by omega) (by rw [hz.out]; exact h3), hsw.out, ((Tr.refl [blk] W).alloc _).trans ht.out (by simp)⟩)

/-- symMerge_func, whatever its two parts. -/
theorem symMerge (hS : SWO lt) (S : SoSet enc lt g lb sf sb blk off size w0) : ∀ (n : Nat) (d : Array α) (W : World) (a m b : Nat), b - a ≤ n → SW enc w0 blk off d W → d.size = size → a < m → m < b → b ≤ size → SF lt (at! d) a m → SF lt (at! d) m b →
    Calls Try.prog 64 #[soData g lb sf sb, .int .i64 a, .int .i64 m, .int .i64 b] W (SoGives enc w0 blk off (Merged lt a b d) W)
  | 0, d, W, a, m, b, hn, _, _, h1, h2, _, _, _ => by omega
  | n + 1, d, W, a, m, b, hn, hSW, hs, h1, h2, h3, Sa, Sb => by
    by_cases c1 : m = a + 1
    · subst c1
      have := sym_left hS S d W hSW hs a b h2 h3 Sb
      rw [show ((a : Int) + 1) = ((a + 1 : Nat) : Int) by omega] at this
      exact this
    · by_cases c2 : b = m + 1
      · subst c2
        have := sym_right hS S d W hSW hs a m (by omega) h3 Sa
        rw [show ((m : Int) + 1) = ((m + 1 : Nat) : Int) by omega] at this
        exact this
      · exact sym_both hS S d W hSW hs a m b (by omega) (by omega) h3 Sa Sb fun d' W' a' m' b' x1 x2 x3 x4 x5 x6 x7 x8 => symMerge hS S n d' W' a' m' b' (by omega) x1 x2 x3 x4 x5 x7 x8
end
end Go.Proofs.Ytncnkfjddolabaa
