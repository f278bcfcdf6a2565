/- sort.Slice of []uint64 by the shelf's contract, in the words of the memory library. -/
import Derived.Test.YtncnkfjddolabaaKp
import Derived.Shelf.GgSortFunc.Whole
import Derived.Shelf.GgSortFunc.Tiny
import Derived.Shelf.Abstract
import Derived.Deep.QuietTactic
import Derived.Ground.GgsProg
import Derived.Lib.RowBridge
import Derived.Lib.SortBridge
import Derived.Sort.LotA
import Derived.WalkKit
set_option linter.unusedVariables false
set_option linter.unusedSimpArgs false
namespace Go.Proofs
open Go.Shelf
def Try.sl6_ren : Go.Shelf.Ren := ⟨fun | 6 => 45 | 10 => 38 | 11 => 39 | 12 => 41 | 13 => 67 | 14 => 68 | 24 => 76 | 25 => 77 | 26 => 63 | 27 => 78 | 28 => 79 | 29 => 80 | 30 => 81 | 31 => 82 | 32 => 83 | 33 => 84 | 34 => 87 | 35 => 88 | 36 => 89 | 37 => 90 | 38 => 91 | 39 => 94 | n => n, fun | 20 => 20 | 26 => 45 | 35 => 70 | 0 => 0 | 37 => 72 | 3 => 3 | 41 => 92 | 44 => 76 | 49 => 33 | 51 => 22 | 4 => 4 | 54 => 103 | 53 => 102 | 58 => 107 | 5 => 5 | 9 => 9 | 60 => 109 | 64 => 112 | 66 => 114 | 67 => 115 | 17 => 17 | 32 => 67 | 33 => 68 | 82 => 130 | 12 => 12 | 75 => 123 | 76 => 124 | 77 => 125 | 78 => 126 | 79 => 127 | 80 => 128 | n => n, fun | n => n⟩
theorem Try.sl6 : Go.Proofs.LaysGg.n6 Try.prog Try.sl6_ren := {
  mixed := by kernel_rfl,
  f6 := Try.func45.trans (congrArg some (by kernel_rfl)),
  f10 := Try.func38.trans (congrArg some (by kernel_rfl)),
  f11 := Try.func39.trans (congrArg some (by kernel_rfl)),
  f12 := Try.func41.trans (congrArg some (by kernel_rfl)),
  f13 := Try.func67.trans (congrArg some (by kernel_rfl)),
  f14 := Try.func68.trans (congrArg some (by kernel_rfl)),
  f24 := Try.func76.trans (congrArg some (by kernel_rfl)),
  f25 := Try.func77.trans (congrArg some (by kernel_rfl)),
  f26 := Try.func63.trans (congrArg some (by kernel_rfl)),
  f27 := Try.func78.trans (congrArg some (by kernel_rfl)),
  f28 := Try.func79.trans (congrArg some (by kernel_rfl)),
  f29 := Try.func80.trans (congrArg some (by kernel_rfl)),
  f30 := Try.func81.trans (congrArg some (by kernel_rfl)),
  f31 := Try.func82.trans (congrArg some (by kernel_rfl)),
  f32 := Try.func83.trans (congrArg some (by kernel_rfl)),
  f33 := Try.func84.trans (congrArg some (by kernel_rfl)),
  f34 := Try.func87.trans (congrArg some (by kernel_rfl)),
  f35 := Try.func88.trans (congrArg some (by kernel_rfl)),
  f36 := Try.func89.trans (congrArg some (by kernel_rfl)),
  f37 := Try.func90.trans (congrArg some (by kernel_rfl)),
  f38 := Try.func91.trans (congrArg some (by kernel_rfl)),
  f39 := Try.func94.trans (congrArg some (by kernel_rfl)),
  t0 := Try.underlying0,
  a0 := Try.isAgg0,
  z0 := Try.sizeOf0,
  v0 := Try.zeroValue0,
  i0 := by kernel_rfl,
  t3 := Try.underlying3,
  a3 := Try.isAgg3,
  z3 := Try.sizeOf3,
  v3 := Try.zeroValue3,
  i3 := by kernel_rfl,
  t4 := Try.underlying4,
  a4 := Try.isAgg4,
  z4 := Try.sizeOf4,
  v4 := Try.zeroValue4,
  i4 := by kernel_rfl,
  t5 := Try.underlying5,
  a5 := Try.isAgg5,
  z5 := Try.sizeOf5,
  v5 := Try.zeroValue5,
  i5 := by kernel_rfl,
  t9 := Try.underlying9,
  a9 := Try.isAgg9,
  z9 := Try.sizeOf9,
  v9 := Try.zeroValue9,
  i9 := by kernel_rfl,
  t12 := Try.underlying12,
  a12 := Try.isAgg12,
  z12 := Try.sizeOf12,
  v12 := Try.zeroValue12,
  i12 := by kernel_rfl,
  t17 := Try.underlying17,
  a17 := Try.isAgg17,
  z17 := Try.sizeOf17,
  v17 := Try.zeroValue17,
  i17 := by kernel_rfl,
  t20 := Try.underlying20,
  a20 := Try.isAgg20,
  z20 := Try.sizeOf20,
  v20 := Try.zeroValue20,
  i20 := by kernel_rfl,
  t26 := Try.underlying45,
  a26 := Try.isAgg45,
  z26 := Try.sizeOf45,
  v26 := Try.zeroValue45,
  i26 := by kernel_rfl,
  t32 := Try.underlying67,
  a32 := Try.isAgg67,
  z32 := Try.sizeOf67,
  v32 := Try.zeroValue67,
  i32 := by kernel_rfl,
  t33 := Try.underlying68,
  a33 := Try.isAgg68,
  z33 := Try.sizeOf68,
  v33 := Try.zeroValue68,
  i33 := by kernel_rfl,
  t35 := Try.underlying70,
  a35 := Try.isAgg70,
  z35 := Try.sizeOf70,
  v35 := Try.zeroValue70,
  i35 := by kernel_rfl,
  t37 := Try.underlying72,
  a37 := Try.isAgg72,
  z37 := Try.sizeOf72,
  v37 := Try.zeroValue72,
  i37 := by kernel_rfl,
  t41 := Try.underlying92,
  a41 := Try.isAgg92,
  z41 := Try.sizeOf92,
  v41 := Try.zeroValue92,
  i41 := by kernel_rfl,
  t44 := Try.underlying76,
  a44 := Try.isAgg76,
  z44 := Try.sizeOf76,
  v44 := Try.zeroValue76,
  i44 := by kernel_rfl,
  t49 := Try.underlying33,
  a49 := Try.isAgg33,
  z49 := Try.sizeOf33,
  v49 := Try.zeroValue33,
  i49 := by kernel_rfl,
  t51 := Try.underlying22,
  a51 := Try.isAgg22,
  z51 := Try.sizeOf22,
  v51 := Try.zeroValue22,
  i51 := by kernel_rfl,
  t53 := Try.underlying102,
  a53 := Try.isAgg102,
  z53 := Try.sizeOf102,
  v53 := Try.zeroValue102,
  i53 := by kernel_rfl,
  t54 := Try.underlying103,
  a54 := Try.isAgg103,
  z54 := Try.sizeOf103,
  v54 := Try.zeroValue103,
  i54 := by kernel_rfl,
  t58 := Try.underlying107,
  a58 := Try.isAgg107,
  z58 := Try.sizeOf107,
  v58 := Try.zeroValue107,
  i58 := by kernel_rfl,
  t60 := Try.underlying109,
  a60 := Try.isAgg109,
  z60 := Try.sizeOf109,
  v60 := Try.zeroValue109,
  i60 := by kernel_rfl,
  t64 := Try.underlying112,
  a64 := Try.isAgg112,
  z64 := Try.sizeOf112,
  v64 := Try.zeroValue112,
  i64 := by kernel_rfl,
  t66 := Try.underlying114,
  a66 := Try.isAgg114,
  z66 := Try.sizeOf114,
  v66 := Try.zeroValue114,
  i66 := by kernel_rfl,
  t67 := Try.underlying115,
  a67 := Try.isAgg115,
  z67 := Try.sizeOf115,
  v67 := Try.zeroValue115,
  i67 := by kernel_rfl,
  t75 := Try.underlying123,
  a75 := Try.isAgg123,
  z75 := Try.sizeOf123,
  v75 := Try.zeroValue123,
  i75 := by kernel_rfl,
  t76 := Try.underlying124,
  a76 := Try.isAgg124,
  z76 := Try.sizeOf124,
  v76 := Try.zeroValue124,
  i76 := by kernel_rfl,
  t77 := Try.underlying125,
  a77 := Try.isAgg125,
  z77 := Try.sizeOf125,
  v77 := Try.zeroValue125,
  i77 := by kernel_rfl,
  t78 := Try.underlying126,
  a78 := Try.isAgg126,
  z78 := Try.sizeOf126,
  v78 := Try.zeroValue126,
  i78 := by kernel_rfl,
  t79 := Try.underlying127,
  a79 := Try.isAgg127,
  z79 := Try.sizeOf127,
  v79 := Try.zeroValue127,
  i79 := by kernel_rfl,
  t80 := Try.underlying128,
  a80 := Try.isAgg128,
  z80 := Try.sizeOf128,
  v80 := Try.zeroValue128,
  i80 := by kernel_rfl,
  t82 := Try.underlying130,
  a82 := Try.isAgg130,
  z82 := Try.sizeOf130,
  v82 := Try.zeroValue130,
  i82 := by kernel_rfl }
end Go.Proofs
namespace Go.Proofs.Ytncnkfjddolabaa
open Go Go.RowKit Go.Shelf Go.Lib Go.Sort

noncomputable def soT : TypeInfo := (Try.prog.info? 53).get (by kernel_rfl)
noncomputable def soE : TypeInfo := (Try.prog.info? 22).get (by kernel_rfl)
theorem soK (n : Nat) (h2 : 2 ≤ n) : Lib.swapperK n soE 11 = 5 := by
  have a : soE.hasPointers = false := by kernel_rfl
  have b : soE.bytes = 8 := by kernel_rfl
  have c : (n == 0) = false := by simp; omega
  have d : (n == 1) = false := by simp; omega
  simp [Lib.swapperK, a, b, c, d]

theorem so_eq (d d' : Array Int) (hp : PermIn 0 d.size d d') (hs : SortedIn ltInt 0 d.size d') : d' = (d.toList.mergeSort fun x y => decide (x ≤ y)).toArray := by
  have h := sorted_unique_holds (lt := ltInt) swo_ltInt (fun x y h1 h2 => by simp only [ltInt, decide_eq_false_iff_not] at h1 h2; omega) d d' hp hs
  have e : (fun x y : Int => !ltInt y x) = fun x y => decide (x ≤ y) := by
    funext x y
    simp only [ltInt]
    by_cases h : x ≤ y
    · first | (simp [h]; done) | (simp [h]; omega)
    · first | (simp [h]; done) | (simp [h]; omega)
  rw [e] at h
  rw [← h]

set_option maxHeartbeats 2000000 in
theorem less_u64 (blk off c Bs size : Nat) (W : World) (G : Nat → Int) (hs : W.cell? ⟨Bs, 0, none⟩ = some (.slice (some ⟨blk, off, none⟩) size c)) (hsz : size < 4611686018427387904)
    (hc : ∀ t, t < size → W.cell? ⟨blk, off + t, none⟩ = some (.int .u64 (G t))) (i j : Nat) (hi : i < size) (hj : j < size) :
    Calls Try.prog 46 #[.int .i64 i, .int .i64 j, .pointer (some ⟨Bs, 0, none⟩)] W fun e w' => e = .returned (.bool (decide (G i < G j))) ∧ ∃ q, w' = W.drewN q := by
  have ci := hc i hi
  have cj := hc j hj
  go_enter Try.func46, Try.ntmps46
  go_wp2
  go_quiet (fail)
  go_wp2
  go_ret
  exact ⟨rfl, nq, rfl⟩

theorem Own.frozen {w : World} {e : TypeId} {size b n c : Nat} {xs : List Value} (h : Own w e size (.slice (some ⟨b, 0, none⟩) n c) n xs) (o : Nat) : w.frozen? ⟨b, o, none⟩ = false := by
  rcases h.1.2 with ⟨h, _⟩ | ⟨g, cap, cur, hv, _, hb, _⟩
  · cases h
  · cases hv; exact frozen_cells hb o
theorem tr_grow (w : World) (os : Array Obj) : Tr [] w (Sort.grow w os) := ⟨rfl, rfl, rfl, by simp [Sort.grow], fun k hk _ => by simp [Sort.grow, Array.getElem?_append, hk]⟩
theorem tr_setCells (b : Nat) : ∀ (vs : List Value) (o : Nat) (w : World), Tr [b] w (w.setCells b o vs)
  | [], _, w => Tr.refl _ _
  | v :: r, o, w => ((Tr.refl [b] w).setCell (.inl (by simp)) v).trans (tr_setCells b r (o + 1) _) (by simp)

/-- What the sort leaves. -/
def Sorted64 (b c : Nat) (xs : List Int) (W W' : World) : Prop :=
  Tr [b] W W' ∧ RdV W' 1 (.slice (some ⟨b, 0, none⟩) xs.length c) xs.length (iv .u64 (xs.mergeSort fun x y => decide (x ≤ y)))

set_option maxHeartbeats 2000000 in
theorem sort_u64 (b c Bs : Nat) (xs : List Int) (W : World) (hlt : xs.length < 4611686018427387904) (hne : Bs ≠ b) (hBs : W.cell? ⟨Bs, 0, none⟩ = some (.slice (some ⟨b, 0, none⟩) xs.length c))
    (hown : Own W 22 1 (.slice (some ⟨b, 0, none⟩) xs.length c) xs.length (iv .u64 xs)) :
    Calls Try.prog 45 #[.iface 53 (.slice (some ⟨b, 0, none⟩) xs.length c), .func (.func 46) #[] #[.pointer (some ⟨Bs, 0, none⟩)]] W
      fun e w' => e = .returned (.tuple #[]) ∧ Sorted64 b c xs W w' := by
  obtain ⟨hcb, hcc⟩ : xs.length ≤ c ∧ c ≤ maxLen := by
    rcases hown.1.2 with ⟨h, _⟩ | ⟨g, cap, cur, hv, _, _, h1, h2, _⟩
    · cases h
    · cases hv; exact ⟨h1, h2⟩
  have hb : b < W.heap.size := hown.lt b (by simp [ob, Value.ownBlock])
  have hBl := lt_of_cell hBs
  have hcell : ∀ j, j < xs.length → W.cell? ⟨b, 0 + j, none⟩ = some (.int .u64 (xs.getD j 0)) := by
    intro j hj
    obtain ⟨b', f', c', hv, _, _, _, hh⟩ := hown.rd.ptr (by omega)
    cases hv
    exact hh j _ (iv_get hj)
  have hH : Holds (Value.int .u64) W b 0 xs.toArray := by
    intro j hj
    have hj' : j < xs.length := by simpa using hj
    refine ⟨?_, hown.frozen _⟩
    rw [hcell j hj']
    simp [hj', List.getElem?_eq_getElem hj']
  by_cases h2 : 2 ≤ xs.length
  · have hless : LessReads Try.prog 46 #[.pointer (some ⟨Bs, 0, none⟩)] (Value.int .u64) ltInt b 0 xs.toArray.size W := by
      intro m os dk hs i j hi hj
      have e : sortWorld (Value.int .u64) W b 0 m dk os = putRow (Value.int .u64) (grow (Sort.ahead W m) os) b 0 dk := by
        unfold sortWorld; rw [putRow_grow _ (Sort.ahead W m) _ b 0 _ hb]
      have hHg : Holds (Value.int .u64) (grow (Sort.ahead W m) os) b 0 xs.toArray := holds_grow _ _ _ b 0 _ hb (holds_ahead _ _ _ _ _ _ hH)
      refine less_u64 b 0 c Bs xs.toArray.size _ (fun t => dk[t]!) ?_ (by simpa using hlt) (fun t ht => ?_) i j hi hj
      · rw [e, cell?_putRow_other _ _ b 0 dk _ (Or.inl hne), cell?_grow _ _ _ hBl]
        simpa using hBs
      · rw [e]; exact cell?_putRow _ _ b 0 _ dk hHg hs t (by omega)
    have hS := Any.sort_Slice_sorted Try.sl6 53 22 soT soE (by kernel_rfl) (by kernel_rfl) (by kernel_rfl) (by kernel_rfl) 11 (fun _ => by kernel_rfl) (by kernel_rfl) (fun _ => by kernel_rfl) (Value.int .u64) (fun _ => rfl) ltInt swo_ltInt 46 _
      (enters_of Try.func46 (by kernel_rfl) rfl) b 0 c xs.toArray (by simpa using h2) (by simpa using hlt) 58 (by rw [soK _ (by simpa using h2)]; kernel_rfl) true
      (fun args W => run_callFunc_extern Try.func58 (by kernel_rfl) (by kernel_rfl) (by kernel_rfl) (e := Extern.ReflectliteSwapper.swap true) (by kernel_rfl) args W) _ hless hH hb
    rw [show xs.toArray.size = xs.length by simp] at hS
    change Calls Try.prog 45 _ _ _ at hS
    refine hS.mono ?_
    rintro e w' ⟨rfl, d', n, os, hp, hso, rfl⟩
    have hd := so_eq xs.toArray d' (by simpa using hp) (by simpa using hso)
    have hdz : d'.size = xs.toArray.size := by rw [hd]; simp
    have hrow : ∀ j, j < xs.length → (grow (putRow (Value.int .u64) (Sort.ahead W n) b 0 d') os).cell? ⟨b, 0 + j, none⟩ = some (.int .u64 d'[j]!) := by
      intro j hj
      rw [cell?_grow _ _ _ (by rw [size_putRow]; exact hb)]
      exact cell?_putRow _ _ b 0 _ d' (holds_ahead _ _ _ _ _ _ hH) hdz j (by rw [hdz]; simpa using hj)
    rw [hd] at hrow
    rw [hd]
    rw [Lib.sorted_world (Value.int .u64) W b 0 n xs.toArray _ os hH (by simp)] at hrow ⊢
    have ht : Tr [b] W (grow ((W.drewN n).setCells b 0 ((xs.toArray.toList.mergeSort fun x y => decide (x ≤ y)).map (Value.int .u64))) os) :=
      (((Tr.refl [b] W).drewN n).trans (tr_setCells b _ 0 _) (by simp)).trans (tr_grow _ os) (by simp)
    refine ⟨rfl, ht, by simp [iv], by simp [iv, Value.oneCell'], .inr ⟨_, _, rfl, hcb, hcc, fun _ => ⟨b, 0, rfl, Nat.lt_of_lt_of_le hb ht.size, fun j u hu => ?_⟩⟩⟩
    have hj : j < xs.length := by
      have := (List.getElem?_eq_some_iff.1 hu).1
      simpa [iv] using this
    rw [hrow j hj]
    rw [← hu]
    simp [iv, hj]
  · have hm : xs.mergeSort (fun x y => decide (x ≤ y)) = xs := by
      match xs, h2 with
      | [], _ => simp
      | [x], _ => simp
      | x :: y :: r, h => simp at h
    have hK : Lib.swapperK xs.length soE 11 = xs.length + 1 := by
      rcases Nat.eq_zero_or_pos xs.length with h | h
      · rw [h]; simp [Lib.swapperK]
      · rw [show xs.length = 1 by omega]; simp [Lib.swapperK]
    have hS := Any.sort_Slice_tiny Try.sl6 53 22 soT soE (by kernel_rfl) (by kernel_rfl) (by kernel_rfl) (by kernel_rfl) 11 (fun _ => by kernel_rfl) (some ⟨b, 0, none⟩) xs.length c (by omega) (54 + xs.length) (by
      rw [hK]
      rcases Nat.eq_zero_or_pos xs.length with h | h
      · rw [h]; kernel_rfl
      · rw [show xs.length = 1 by omega]; kernel_rfl) (.func 46) #[] #[.pointer (some ⟨Bs, 0, none⟩)] W
    change Calls Try.prog 45 _ _ _ at hS
    refine hS.mono ?_
    rintro e w' ⟨rfl, os, rfl⟩
    refine ⟨rfl, ?_, ?_⟩
    · exact (tr_grow W os).nil _
    · rw [hm]; exact hown.rd.keep' (tr_grow W os)

set_option maxHeartbeats 2000000 in
theorem sort_any (v : Value) (Bs : Nat) (xs : List Int) (W : World) (hlt : xs.length < 4611686018427387904) (hne : Bs ∉ ob v) (hBs : W.cell? ⟨Bs, 0, none⟩ = some v) (hown : Own W 22 1 v xs.length (iv .u64 xs)) :
    Calls Try.prog 45 #[.iface 53 v, .func (.func 46) #[] #[.pointer (some ⟨Bs, 0, none⟩)]] W
      fun e w' => e = .returned (.tuple #[]) ∧ Tr (ob v) W w' ∧ RdV w' 1 v xs.length (iv .u64 (Kmv.sort xs)) := by
  rcases hown.1.2 with ⟨rfl, h0⟩ | ⟨g, cap, cur, rfl, _⟩
  · have hx : xs = [] := by cases xs with
      | nil => rfl
      | cons _ _ => simp at h0
    subst hx
    have hS := Any.sort_Slice_tiny Try.sl6 53 22 soT soE (by kernel_rfl) (by kernel_rfl) (by kernel_rfl) (by kernel_rfl) 11 (fun _ => by kernel_rfl) none 0 0 (by omega) 54 (by
      rw [show Lib.swapperK 0 soE 11 = 1 by simp [Lib.swapperK]]; kernel_rfl) (.func 46) #[] #[.pointer (some ⟨Bs, 0, none⟩)] W
    change Calls Try.prog 45 _ _ _ at hS
    refine hS.mono ?_
    rintro e w' ⟨rfl, os, rfl⟩
    exact ⟨rfl, (tr_grow W os).nil _, by simpa [Kmv.sort] using hown.rd.keep' (tr_grow W os)⟩
  · refine (sort_u64 g cap Bs xs W hlt (fun h => hne (by simp [ob, Value.ownBlock, h])) hBs hown).mono ?_
    rintro e w' ⟨rfl, ht, hr⟩
    exact ⟨rfl, by simpa [ob, Value.ownBlock] using ht, hr⟩

end Go.Proofs.Ytncnkfjddolabaa
