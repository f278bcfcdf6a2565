/- sort.SliceStable of []float64, any length: a permutation, by the keys. -/
import Derived.Test.YtncnkfjddolabaaSz
import Derived.Test.YtncnkfjddolabaaGs
set_option linter.unusedVariables false
set_option linter.unusedSimpArgs false
namespace Go.Proofs.Ytncnkfjddolabaa
open Go Go.RowKit Go.Shelf Go.Lib Go.Sort

/-- A float's bits. -/
structure F64 where
  b : Nat
  lt : b < 18446744073709551616
instance : Inhabited F64 := ⟨⟨0, by decide⟩⟩
abbrev F64.v (x : F64) : Value := .float .f64 x.b
def F64.less (x y : F64) : Bool := decide (Fl.keyT x.b < Fl.keyT y.b)
theorem F64.swo : SWO F64.less where
  irrefl x := by simp [F64.less]
  trans x y z h1 h2 := by simp only [F64.less, decide_eq_true_eq] at *; omega
  ntrans x y z h1 h2 := by simp only [F64.less, decide_eq_false_iff_not] at *; omega
def fbs (xs : List F64) : List Nat := xs.map F64.b

noncomputable def sfT : TypeInfo := (Try.prog.info? 35).get (by kernel_rfl)
noncomputable def sfE : TypeInfo := (Try.prog.info? 24).get (by kernel_rfl)
theorem sfK (n : Nat) (h2 : 2 ≤ n) : Lib.swapperK n sfE 14 = 5 := by
  have a : sfE.hasPointers = false := by kernel_rfl
  have b : sfE.bytes = 8 := by kernel_rfl
  have c : (n == 0) = false := by simp; omega
  have d : (n == 1) = false := by simp; omega
  simp [Lib.swapperK, a, b, c, d]

/-- What the sort leaves. -/
def SortedF (v : Value) (xs : List F64) (W W' : World) : Prop :=
  Tr (ob v) W W' ∧ ∃ ys : List F64, ys.Perm xs ∧ (ys.map fun x => Fl.keyT x.b).Pairwise (· ≤ ·) ∧ RdV W' 1 v xs.length (fv (fbs ys))

theorem Own.frozenF {w : World} {e : TypeId} {size b n c : Nat} {xs : List Value} (h : Own w e size (.slice (some ⟨b, 0, none⟩) n c) n xs) (o : Nat) : w.frozen? ⟨b, o, none⟩ = false := by
  rcases h.1.2 with ⟨h, _⟩ | ⟨g, cap, cur, hv, _, hb, _⟩
  · cases h
  · cases hv; exact frozen_cells hb o

theorem perm_of (d d' : Array F64) (h : PermIn 0 d.size d d') : d'.toList.Perm d.toList := by
  have := h.2.2
  have e1 : (d.extract 0 d.size) = d := by simp
  have e2 : (d'.extract 0 d.size) = d' := by rw [← h.1]; simp
  rw [e1, e2] at this
  exact this
theorem sorted_of (d : Array F64) (h : SortedIn F64.less 0 d.size d) : (d.toList.map fun x => Fl.keyT x.b).Pairwise (· ≤ ·) := by
  rw [List.pairwise_map, List.pairwise_iff_getElem]
  intro i j hi hj hij
  have := h i j (Nat.zero_le _) hij (by simpa using hj)
  simp only [F64.less, decide_eq_false_iff_not] at this
  have e1 : d[i]! = d.toList[i] := by rw [getElem!_pos d i (by simpa using hi)]; simp
  have e2 : d[j]! = d.toList[j] := by rw [getElem!_pos d j (by simpa using hj)]; simp
  rw [e1, e2] at this
  omega

theorem short_sorted (xs : List F64) (h : xs.length ≤ 1) : (xs.map fun x => Fl.keyT x.b).Pairwise (· ≤ ·) := by
  match xs, h with
  | [], _ => simp
  | [x], _ => simp
  | x :: y :: r, h => simp only [List.length_cons] at h; omega
set_option maxHeartbeats 4000000 in
theorem stable_f64 (b c : Nat) (xs : List F64) (W : World) (g : Nat) (lb : Array Value) (eg : ∀ args w, (callFunc g args).run Try.prog w = .ok (.enter g args) w)
    (hless : LessReads Try.prog g lb F64.v F64.less b 0 xs.length W) (hlt : xs.length < 4294967296)
    (hown : Own W 24 1 (.slice (some ⟨b, 0, none⟩) xs.length c) xs.length (fv (fbs xs))) :
    Calls Try.prog 17 #[.iface 35 (.slice (some ⟨b, 0, none⟩) xs.length c), .func (.func g) #[] lb] W
      fun e w' => e = .returned (.tuple #[]) ∧ SortedF (.slice (some ⟨b, 0, none⟩) xs.length c) xs W w' := by
  obtain ⟨hcb, hcc⟩ : xs.length ≤ c ∧ c ≤ maxLen := by
    rcases hown.1.2 with ⟨h, _⟩ | ⟨g, cap, cur, hv, _, _, h1, h2, _⟩
    · cases h
    · cases hv; exact ⟨h1, h2⟩
  have hb : b < W.heap.size := hown.lt b (by simp [ob, Value.ownBlock])
  have hfx : (fbs xs).length = xs.length := by simp [fbs]
  have hcell : ∀ j, j < xs.length → W.cell? ⟨b, 0 + j, none⟩ = some (.float .f64 ((fbs xs).getD j 0)) := by
    intro j hj
    obtain ⟨b', f', c', hv, _, _, _, hh⟩ := hown.rd.ptr (by omega)
    cases hv
    exact hh j _ (fv_get (by omega))
  have hH : Holds F64.v W b 0 xs.toArray := by
    intro j hj
    have hj' : j < xs.length := by simpa using hj
    refine ⟨?_, hown.frozenF _⟩
    rw [hcell j hj']
    simp [hj', fbs, List.getElem?_eq_getElem hj']
  by_cases h2 : 2 ≤ xs.length
  · refine Any.sort_SliceStable_of_stable Try.st8 35 24 sfT sfE (by kernel_rfl) (by kernel_rfl) (by kernel_rfl) (by kernel_rfl) 14 (fun _ => by kernel_rfl) (some ⟨b, 0, none⟩) xs.length c (by omega) 58
      (by rw [sfK _ h2]; kernel_rfl) (.func g) #[] lb W (fun w' => SortedF (.slice (some ⟨b, 0, none⟩) xs.length c) xs W w') ?_
    have hx : ∀ args W, (callFunc 58 args).run Try.prog W = ((Extern.ReflectliteSwapper.swap true args).run Try.prog W).andThen fun v w' => .ok (.value v) w' := fun args W =>
      run_callFunc_extern Try.func58 (by kernel_rfl) (by kernel_rfl) (by kernel_rfl) (e := Extern.ReflectliteSwapper.swap true) (by kernel_rfl) args W
    have hB : sliceBound Try.prog 24 sfE 14 (some ⟨b, 0, none⟩) xs.length c = #[.slice (some ⟨b, 0, none⟩) xs.length c, typeHandle Try.prog 24] := by
      unfold sliceBound; rw [if_neg (swapperK_gt _ _ _ h2)]
    obtain ⟨os0, hW⟩ : ∃ os0, stableWorld Try.prog Try.st8_ren 35 (some ⟨b, 0, none⟩) xs.length c W = grow W os0 := by
      unfold stableWorld; rw [alloc_eq_grow, alloc_eq_grow, grow_grow]; exact ⟨_, rfl⟩
    rw [hB, hW]
    have hHg := holds_grow F64.v W os0 b 0 xs.toArray hb hH
    have S : SoSet F64.v F64.less g lb 58 #[.slice (some ⟨b, 0, none⟩) xs.length c, typeHandle Try.prog 24] b 0 xs.length (grow W os0) :=
      ⟨eg, hless.grow hb os0, swapSwaps_of_literal true _ hx 24 sfE (by kernel_rfl) (by kernel_rfl) (fun _ => by kernel_rfl) F64.v (fun _ => rfl) b 0 xs.length c, by rw [size_grow]; omega, ⟨xs.toArray, hHg, by simp⟩, by omega⟩
    have hs := stable_any F64.swo S xs.toArray (grow W os0) (SW.start hHg) (by simp) hlt
    change Calls Try.prog 40 _ _ _
    refine hs.mono ?_
    rintro e w' ⟨rfl, d', hm, hsw, ht⟩
    refine ⟨rfl, by simpa [ob, Value.ownBlock] using ((trGrow W os0).nil [b]).trans ht (by simp), d'.toList, ?_, ?_, ?_⟩
    · have := perm_of xs.toArray d' (by have := hm.perm; simpa using this)
      simpa using this
    · refine sorted_of d' ?_
      have h1 := hm.sorted
      have h2 := hm.size
      simp at h2
      rw [h2]; exact h1
    · have hz := hm.size
      simp at hz
      have hh := hsw.holds S.inn hHg (by rw [hm.size])
      have hl : d'.toList.length = xs.length := by simpa using hz
      have hl2 : (fv (fbs d'.toList)).length = xs.length := by simp [fv, fbs, hz]
      refine ⟨by rw [hl2]; omega, fun u hu => fv_one hu, .inr ⟨_, _, rfl, hcb, hcc, fun _ => ⟨b, 0, rfl, Nat.lt_of_lt_of_le hb ?_, fun j u hu => ?_⟩⟩⟩
      · exact (((trGrow W os0).nil [b]).trans ht (by simp)).size
      · have hj : j < xs.length := by
          have := (List.getElem?_eq_some_iff.1 hu).1
          omega
        rw [(hh j (by omega)).1]
        rw [← hu]
        have hj2 : j < d'.size := by omega
        simp [fv, fbs, hj2]
  · have hK : Lib.swapperK xs.length sfE 14 = xs.length + 1 := by
      rcases Nat.eq_zero_or_pos xs.length with h | h
      · rw [h]; simp [Lib.swapperK]
      · rw [show xs.length = 1 by omega]; simp [Lib.swapperK]
    have hS := Any.sort_SliceStable_tiny Try.st8 35 24 sfT sfE (by kernel_rfl) (by kernel_rfl) (by kernel_rfl) (by kernel_rfl) 14 (fun _ => by kernel_rfl) (some ⟨b, 0, none⟩) xs.length c (by omega) (54 + xs.length) (by
      rw [hK]
      rcases Nat.eq_zero_or_pos xs.length with h | h
      · rw [h]; kernel_rfl
      · rw [show xs.length = 1 by omega]; kernel_rfl) (.func g) #[] lb W
    change Calls Try.prog 17 _ _ _ at hS
    refine hS.mono ?_
    rintro e w' ⟨rfl, os, rfl⟩
    refine ⟨rfl, (trGrow W os).nil _, xs, List.Perm.refl _, ?_, hown.rd.keep' (trGrow W os)⟩
    exact short_sorted xs (by omega)

set_option maxHeartbeats 2000000 in
theorem stable_f64_any (v : Value) (xs : List F64) (W : World) (g : Nat) (lb : Array Value) (eg : ∀ args w, (callFunc g args).run Try.prog w = .ok (.enter g args) w)
    (hless : ∀ b c, v = .slice (some ⟨b, 0, none⟩) xs.length c → LessReads Try.prog g lb F64.v F64.less b 0 xs.length W) (hlt : xs.length < 4294967296)
    (hown : Own W 24 1 v xs.length (fv (fbs xs))) :
    Calls Try.prog 17 #[.iface 35 v, .func (.func g) #[] lb] W fun e w' => e = .returned (.tuple #[]) ∧ SortedF v xs W w' := by
  rcases hown.1.2 with ⟨rfl, h0⟩ | ⟨b, cap, cur, rfl, _⟩
  · have hx : xs = [] := by cases xs with
      | nil => rfl
      | cons _ _ => simp at h0
    subst hx
    have hS := Any.sort_SliceStable_tiny Try.st8 35 24 sfT sfE (by kernel_rfl) (by kernel_rfl) (by kernel_rfl) (by kernel_rfl) 14 (fun _ => by kernel_rfl) none 0 0 (by omega) 54 (by
      rw [show Lib.swapperK 0 sfE 14 = 1 by simp [Lib.swapperK]]; kernel_rfl) (.func g) #[] lb W
    change Calls Try.prog 17 _ _ _ at hS
    refine hS.mono ?_
    rintro e w' ⟨rfl, os, rfl⟩
    exact ⟨rfl, (trGrow W os).nil _, [], List.Perm.refl _, by simp, hown.rd.keep' (trGrow W os)⟩
  · exact stable_f64 b cap xs W g lb eg (hless b cap rfl) hlt hown
end Go.Proofs.Ytncnkfjddolabaa
