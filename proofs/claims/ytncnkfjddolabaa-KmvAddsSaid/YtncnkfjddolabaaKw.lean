/- Walks: law 12's KmvAdds. -/
import Derived.Test.YtncnkfjddolabaaLe
import Derived.Deep.RegionHeld3
set_option linter.unusedVariables false
set_option linter.unusedSimpArgs false
namespace Go.Proofs.Ytncnkfjddolabaa
open Go Go.RowKit

theorem Own.set {w : World} {e : TypeId} {b n c j : Nat} {xs : List Value} {u : Value} (h : Own w e 1 (.slice (some ⟨b, 0, none⟩) n c) n xs) (hj : j < n) (hu : u.oneCell' = true) :
    Own (w.setCell ⟨b, j, none⟩ u) e 1 (.slice (some ⟨b, 0, none⟩) n c) n (xs.set j u) := by
  obtain ⟨⟨hl, hv⟩, h1⟩ := h
  refine ⟨⟨by simpa using hl, ?_⟩, fun z hz => ?_⟩
  · rcases hv with ⟨hv, _⟩ | ⟨g, cap, cur, hv, h2, h3, h4, h5, h6, h7⟩
    · cases hv
    · cases hv
      refine .inr ⟨b, c, cur.setIfInBounds j u, rfl, h2, ?_, h4, h5, by simpa using h6, ?_⟩
      · have := heap_setCell (o := j) h3 u
        simpa using this
      · rw [← h7]; simp [List.take_set]
  · rcases List.mem_or_eq_of_mem_set hz with hz | rfl
    · exact h1 z hz
    · exact hu

/-- What holds at the head of a round of KmvAdds. -/
structure Ka (w wr : World) (Bs : Nat) (K : Int) (v x : Value) (zs xs : List Int) : Prop where
  tr : Tr [] w wr
  s : wr.heap[Bs]? = some (.cells #[.int .i64 K, v] 55 (0, 0))
  rd : RdV wr 1 v zs.length (iv .u64 zs)
  own : Own wr 22 1 x xs.length (iv .u64 xs)
  far : ∀ z ∈ ob x, w.heap.size ≤ z ∧ z ≠ Bs ∧ Off [z] v

theorem Ka.set {w wr : World} {Bs b c j n : Nat} {K y : Int} {v : Value} {zs xs : List Int} (h : Ka w wr Bs K v (.slice (some ⟨b, 0, none⟩) n c) zs xs) (hn : n = xs.length) (hj : j < n) :
    Ka w (wr.setCell ⟨b, j, none⟩ (.int .u64 y)) Bs K v (.slice (some ⟨b, 0, none⟩) n c) zs (xs.set j y) := by
  subst hn
  obtain ⟨f1, f2, f3⟩ := h.far b (by simp [ob, Value.ownBlock])
  refine ⟨h.tr.setCell (.inr f1) _, ?_, h.rd.keep (S := [b]) ((Tr.refl _ _).setCell (by simp) _) f3, ?_, ?_⟩
  · rw [heap_setCell_ne (fun e => f2 e.symm)]; exact h.s
  · have := h.own.set (u := .int .u64 y) hj rfl
    rw [List.length_set]
    simpa [iv, List.map_set] using this
  · intro z hz
    refine h.far z ?_
    simpa [ob, Value.ownBlock] using hz

theorem Ka.start {w w2 w3 : World} {K : Int} {v x : Value} {zs l : List Int} (hown2 : Own w2 22 1 v zs.length (iv .u64 zs)) (r2 : Tr [] w w2)
    (ht3 : Tr (ob (.slice (some ⟨w2.heap.size + 1, 0, none⟩) 0 0)) ((w2.alloc (.cells #[.int .i64 K, v] 55)).alloc (.cells #[] 22)) w3)
    (hb3 : ∀ z ∈ ob x, z ∈ ob (.slice (some ⟨w2.heap.size + 1, 0, none⟩) 0 0) ∨ ((w2.alloc (.cells #[.int .i64 K, v] 55)).alloc (.cells #[] 22)).heap.size ≤ z)
    (hown3 : Own w3 22 1 x l.length (iv .u64 l)) : Ka w w3 w2.heap.size K v x zs l := by
  have s2 := r2.size
  have e : ob (.slice (some ⟨w2.heap.size + 1, 0, none⟩) 0 0) = [w2.heap.size + 1] := by simp [ob, Value.ownBlock]
  rw [e] at ht3 hb3
  have f : ∀ z ∈ ob x, w2.heap.size < z := fun z hz => by
    rcases hb3 z hz with h | h
    · simp at h; omega
    · rw [szA, szA] at h; omega
  refine ⟨((r2.alloc _).alloc _).trans ht3 (fun z hz => .inr (by simp at hz; omega)), ?_, ?_, hown3, fun z hz => ⟨?_, ?_, hown2.rd.off_ge (fun y hy => ?_)⟩⟩
  · rw [ht3.block _ (by simp only [szA]; omega) (by simp)]
    exact heap_old _ (heap_new _ _)
  · exact ((hown2.rd.alloc _).alloc _).keep ht3 (hown2.rd.off_ge (fun y hy => by simp at hy; omega))
  · have := f z hz; omega
  · have := f z hz; omega
  · have := f z hz; simp at hy; omega

/-- The first i turned. -/
def Kmv.mix (few : Bool) (i : Nat) (l : List Int) : List Int := (l.take i).map (Kmv.hv few) ++ l.drop i
theorem Kmv.mix_len (few : Bool) (i : Nat) (l : List Int) : (Kmv.mix few i l).length = l.length := by simp [Kmv.mix]; omega
theorem Kmv.mix_zero (few : Bool) (l : List Int) : Kmv.mix few 0 l = l := by simp [Kmv.mix]
theorem Kmv.mix_all (few : Bool) (l : List Int) : Kmv.mix few l.length l = l.map (Kmv.hv few) := by simp [Kmv.mix]
theorem Kmv.mix_false (i : Nat) (l : List Int) : Kmv.mix false i l = l := by
  have : Kmv.hv false = id := by funext x; rfl
  simp [Kmv.mix, this]
theorem Kmv.mix_get (few : Bool) {i : Nat} {l : List Int} (h : i < l.length) : (Kmv.mix few i l).getD i 0 = l.getD i 0 := by
  simp [Kmv.mix, List.getElem?_append, Nat.min_eq_left (Nat.le_of_lt h)]
theorem Kmv.mix_step (few : Bool) {i : Nat} {l : List Int} (h : i < l.length) : Kmv.mix few (i + 1) l = (Kmv.mix few i l).set i (Kmv.hv few (l.getD i 0)) := by
  have e : l.take (i + 1) = l.take i ++ [l.getD i 0] := by rw [List.take_add_one]; simp [List.getElem?_eq_getElem h]
  have e2 : l.drop i = l.getD i 0 :: l.drop (i + 1) := by rw [List.drop_eq_getElem_cons h]; simp [List.getElem?_eq_getElem h]
  have e3 : ((l.take i).map (Kmv.hv few)).length = i := by simp; omega
  unfold Kmv.mix
  rw [e, e2, List.set_append_right _ _ (by omega), e3, Nat.sub_self]
  simp

set_option maxRecDepth 100000 in
set_option maxHeartbeats 8000000 in
theorem kmv_adds (w : World) (k : Int) (few : Bool) (vl : Value) (l : List Int) (hl : RdV w 1 vl l.length (iv .u64 l)) (h0 : 0 ≤ k) (h1 : k < 256) (hu : ∀ x ∈ l, 0 ≤ x ∧ x < 18446744073709551616) :
    Calls Try.prog 6 #[.int .u8 k, vl, .bool few] w fun e w' => e = .returned (.bool true) ∧ Tr [] w w' := by
  obtain ⟨A, c, rfl, hoc⟩ := hl.slice
  by_cases hbig : 80 < l.length
  · have d : decide ((80 : Int) < l.length) = true := decide_eq_true (by omega)
    clear hl
    go_enter Try.func6, Try.ntmps6
    go_wp2_with (go_at_call 24; refine (awake12 _).mono ?_; rintro e w' ⟨rfl, ht⟩)
    go_ret
    exact ⟨rfl, ht⟩
  have d : decide ((80 : Int) < l.length) = false := decide_eq_false (by omega)
  obtain ⟨K, hK⟩ : ∃ K, K = 1 + k % 20 := ⟨_, rfl⟩
  have HK := Lib.hid hK
  have M := fun w1 (t : Tr [] w w1) => kmv_law w1 k few _ l (hl.keep' t) h0 h1 (by omega) hu
  rw [← hK] at M
  have HU := Lib.hid hu
  clear hK hu
  go_enter Try.func6, Try.ntmps6
  go_wp2_with (first
    | (go_at_call 24; refine (awake12 _).mono ?_; rintro e w1 ⟨rfl, ht1⟩)
    | (go_at_call 25; refine (M _ ht1).mono ?_; rintro e w2 ⟨v, rfl, hown2, ht2, hf2⟩
       have r2 := ht1.trans ht2 (by simp)
       generalize hzs : Kmv.all K.toNat (l.map (Kmv.hv few)) = zs at hown2
       have HZ := Lib.hid hzs
       clear hzs
       obtain ⟨A2, c2, rfl, _⟩ := hown2.rd.slice
       have hmade := Own.made (w2.alloc (.cells #[.int .i64 K, .slice A2 zs.length c2] 55)) 22 1 0 #[] (by decide) (by simp) (by simp)
       rw [szA] at hmade
       have hl1 := ((hl.keep' r2).alloc (.cells #[.int .i64 K, .slice A2 zs.length c2] 55)).alloc (.cells #[] 22))
    | (at_builtin; refine wpList_app rfl (.tmp 19) (.tmp 20) 53 rfl 22 1 8 el64 0 l.length [] (iv .u64 l) hmade hl1 (by omega) (by omega) ?_; intro v' w3 hown3 ht3 hb3; rw [Nat.zero_add, List.nil_append] at hown3
       obtain ⟨A3, c3, rfl, _⟩ := hown3.rd.slice))
  have KA := Lib.hid (Ka.start hown2 r2 ht3 hb3 hown3)
  clear hown2 ht3 hb3 hown3 hmade hl1 hf2 ht1 ht2 r2 M
  go_loopw [24] (fun a wr => ∃ i : Nat, a = .int .i64 i ∧ i ≤ l.length ∧ Ka w wr w2.heap.size K (.slice A2 zs.length c2) (.slice A3 l.length c3) zs (Kmv.mix few i l)) (fun a _ => l.length - sint a)
  case atStart => exact ⟨0, by simp, by omega, by rw [Kmv.mix_zero]; exact KA.out⟩
  case round =>
    obtain ⟨i, rfl, hi, st⟩ := hrel
    clear KA
    by_cases hlt : i < l.length
    · have hlt' : ((i : Int) < l.length) := by omega
      cases few
      · go_wp2
        go_roundw
        case rel => exact ⟨i + 1, by simp, by omega, by rw [Kmv.mix_false] at st ⊢; exact st⟩
        case measure => simp only [sint_int]; omega
      · have own := st.own
        rw [Kmv.mix_len] at own
        obtain ⟨g, c', hv, hc2, hm2, hb2⟩ := own.form (by omega)
        cases hv
        obtain ⟨b, f, c', hv, _, _, _, hcell2⟩ := own.rd.ptr (by omega)
        cases hv
        have c1 := hcell2 i _ (iv_get (by rw [Kmv.mix_len]; omega))
        rw [Kmv.mix_get true hlt, Nat.zero_add] at c1
        have g1 := own.frozen i
        have hx := HU.out (l.getD i 0) (getD_mem hlt)
        have P := st.set (y := Kmv.hv true (l.getD i 0)) (j := i) (by rw [Kmv.mix_len]) hlt
        rw [← Kmv.mix_step true hlt] at P
        have e : Kmv.hv true (l.getD i 0) = l.getD i 0 % 30 := rfl
        rw [e] at P
        have P := Lib.hid P
        generalize l.getD i 0 = y at *
        clear hcell2 st own e
        go_wp2
        go_roundw
        case rel => exact ⟨i + 1, by simp, by omega, P.out⟩
        case measure => simp only [sint_int]; omega
    · obtain rfl : i = l.length := by omega
      rw [Kmv.mix_all] at st
      have hl1 : (l.map (Kmv.hv few)).length = l.length := by simp
      have hz : zs = Kmv.least K.toNat (l.map (Kmv.hv few)) := by rw [← HZ.out, Kmv.all_least]
      have hK := HK.out
      have hKb : 1 ≤ K ∧ K ≤ 20 := by omega
      have hzl : zs.length ≤ K.toNat := by rw [← HZ.out]; exact Kmv.all_len _ _
      have k0 := cell_cells st.s 0
      have k1 := cell_cells st.s 1
      simp at k0 k1
      have b2 := lt_of_heap st.s
      have cells : ∀ w', Tr [] wr w' → w'.cell? ⟨w2.heap.size, 0, none⟩ = some (.int .i64 K) ∧ w'.cell? ⟨w2.heap.size, 1, none⟩ = some (.slice A2 zs.length c2) ∧ Tr [] wr w' := fun w' t =>
        ⟨(t.cell (p := ⟨w2.heap.size, 0, none⟩) b2 (by simp)).trans k0, (t.cell (p := ⟨w2.heap.size, 1, none⟩) b2 (by simp)).trans k1, t⟩
      have CC : ∀ w', (w'.cell? ⟨w2.heap.size, 0, none⟩ = some (.int .i64 K) ∧ w'.cell? ⟨w2.heap.size, 1, none⟩ = some (.slice A2 zs.length c2) ∧ Tr [] wr w') → Calls Try.prog 26 #[.agg #[.int .i64 K, .slice A2 zs.length c2]] w' fun e w'' => e = .returned (.int .i64 0) ∧ w''.cell? ⟨w2.heap.size, 0, none⟩ = some (.int .i64 K) ∧ w''.cell? ⟨w2.heap.size, 1, none⟩ = some (.slice A2 zs.length c2) ∧ Tr [] wr w'' := fun w' ⟨_, _, t⟩ => by
        refine (kmv_check_ok w' K _ zs (st.rd.keep' t) (by omega) (by omega) (by omega) (by rw [hz]; exact Kmv.least_rises _ _)).mono ?_
        rintro e w'' ⟨rfl, t2⟩
        exact ⟨rfl, cells _ (t.trans t2 (by simp))⟩
      have CL : ∀ w', (w'.cell? ⟨w2.heap.size, 0, none⟩ = some (.int .i64 K) ∧ w'.cell? ⟨w2.heap.size, 1, none⟩ = some (.slice A2 zs.length c2) ∧ Tr [] wr w') → Calls Try.prog 28 #[.int .i64 K, .slice A3 l.length c3] w' fun e w'' => ∃ A c, e = .returned (.slice A zs.length c) ∧ RdV w'' 1 (.slice A zs.length c) zs.length (iv .u64 zs) ∧
          w''.cell? ⟨w2.heap.size, 0, none⟩ = some (.int .i64 K) ∧ w''.cell? ⟨w2.heap.size, 1, none⟩ = some (.slice A2 zs.length c2) ∧ Tr [] wr w'' := fun w' ⟨_, _, t⟩ => by
        have r := st.own.rd.keep' t
        have q := least_law w' K (.slice A3 l.length c3) (l.map (Kmv.hv few)) (by simpa using r) (by omega) (by omega) (by rw [hl1]; omega)
        rw [← hz] at q
        refine q.mono ?_
        rintro e w'' ⟨v, rfl, hr, t2⟩
        obtain ⟨A4, c4, rfl, _⟩ := hr.slice
        exact ⟨_, _, rfl, hr, cells _ (t.trans t2 (by simp))⟩
      have CS : ∀ w' A c, (w'.cell? ⟨w2.heap.size, 0, none⟩ = some (.int .i64 K) ∧ w'.cell? ⟨w2.heap.size, 1, none⟩ = some (.slice A2 zs.length c2) ∧ Tr [] wr w') → RdV w' 1 (.slice A zs.length c) zs.length (iv .u64 zs) → Calls Try.prog 27 #[.agg #[.int .i64 K, .slice A2 zs.length c2], .agg #[.int .i64 K, .slice A zs.length c]] w' fun e w'' => e = .returned (.bool true) ∧
          w''.cell? ⟨w2.heap.size, 0, none⟩ = some (.int .i64 K) ∧ w''.cell? ⟨w2.heap.size, 1, none⟩ = some (.slice A2 zs.length c2) ∧ Tr [] wr w'' := fun w' A c ⟨_, _, t⟩ hr => by
        refine (kmv_same_ok w' K _ _ zs (st.rd.keep' t) hr).mono ?_
        rintro e w'' ⟨rfl, t2⟩
        exact ⟨rfl, cells _ (t.trans t2 (by simp))⟩
      have stt := st.tr
      have ST := Lib.hid stt
      obtain ⟨K0, hK0⟩ : ∃ K0, K0 = k % 20 := ⟨_, rfl⟩
      have e0 : k.tmod 20 = K0 := by rw [Int.tmod_eq_emod_of_nonneg h0, hK0]
      have e1 : IntKind.u8.wrap K0 = K0 := by rw [IntKind.wrap_u8]; omega
      have e2 : IntKind.i64.wrap K0 = K0 := by rw [IntKind.wrap_i64]; omega
      have e3 : IntKind.i64.wrap K = K := by rw [IntKind.wrap_i64]; omega
      have e4 : 1 + K0 = K := by omega
      have t0 : Tr [] wr wr := Tr.refl _ _
      clear st hz cells hl hl1 stt hK0 hK hKb hzl hlt hi
      go_wp2
      go_region_held3 (fun w' => w'.cell? ⟨w2.heap.size, 0, none⟩ = some (.int .i64 K) ∧ w'.cell? ⟨w2.heap.size, 1, none⟩ = some (.slice A2 zs.length c2) ∧ Tr [] wr w') (first | assumption | exact ⟨k0, k1, t0.drew⟩ | exact ⟨q.1, q.2.1, q.2.2.drew⟩ | (go_keep))
        (first | (go_at_call 26; refine (CC _ (by assumption)).mono ?_; rintro e w5 ⟨rfl, q⟩) | (go_at_call 28; refine (CL _ (by assumption)).mono ?_; rintro e w6 ⟨A5, c5, rfl, q3, q⟩) | (go_at_call 27; refine (CS _ _ _ (by assumption) (by assumption)).mono ?_; rintro e w7 ⟨rfl, q⟩))
      go_wp2
      go_ret
      exact ⟨rfl, ST.out.trans q.2.2 (by simp)⟩

end Go.Proofs.Ytncnkfjddolabaa
