/- The walk of GaugeAdds. -/
import Derived.Test.YtncnkfjddolabaaGq
set_option linter.unusedVariables false
set_option linter.unusedSimpArgs false
namespace Go.Proofs.Ytncnkfjddolabaa
open Go Go.RowKit Go.Shelf Go.Lib Go.Sort

set_option maxHeartbeats 4000000 in
theorem less_cl (blk off c Bs size : Nat) (W : World) (G : Nat → F64) (hs : W.cell? ⟨Bs, 0, none⟩ = some (.slice (some ⟨blk, off, none⟩) size c)) (hsz : size < 4611686018427387904)
    (hc : ∀ t, t < size → W.cell? ⟨blk, off + t, none⟩ = some (.float .f64 (G t).b)) (i j : Nat) (hi : i < size) (hj : j < size) :
    Calls Try.prog 18 #[.int .i64 i, .int .i64 j, .pointer (some ⟨Bs, 0, none⟩)] W fun e w' => e = .returned (.bool ((G i).less (G j))) ∧ ∃ q, w' = W.drewN q := by
  have ci := hc i hi
  have cj := hc j hj
  have LR : Hid (∀ n, Calls Try.prog 16 #[.float .f64 (G i).b, .float .f64 (G j).b] (W.drewN n) fun e w' => e = .returned (.bool ((G i).less (G j))) ∧ ∃ m, w' = W.drewN m) := Lib.hid fun n =>
    (rless_any _ _ (G i).lt (G j).lt (W.drewN n)).mono fun _ _ ⟨h, e⟩ => ⟨h, n, e.symm⟩
  clear hc
  generalize (G i).less (G j) = r at *
  generalize (G i).b = p at *
  generalize (G j).b = q at *
  go_enter Try.func18, Try.ntmps18
  go_wp2
  go_quiet ((go_at_call 16; (with_reducible exact LR.out _)))
  go_wp2
  go_ret
  exact ⟨rfl, nq, rfl⟩

theorem less_reads (b c Bs : Nat) (xs : List F64) (W : World) (hlt : xs.length < 4294967296) (hne : Bs ≠ b) (hb : b < W.heap.size) (hBs : W.cell? ⟨Bs, 0, none⟩ = some (.slice (some ⟨b, 0, none⟩) xs.length c))
    (hH : Holds F64.v W b 0 xs.toArray) (g : Nat)
    (hg : ∀ (W : World) (G : Nat → F64), W.cell? ⟨Bs, 0, none⟩ = some (.slice (some ⟨b, 0, none⟩) xs.length c) → (∀ t, t < xs.length → W.cell? ⟨b, 0 + t, none⟩ = some (.float .f64 (G t).b)) → ∀ i j, i < xs.length → j < xs.length →
      Calls Try.prog g #[.int .i64 i, .int .i64 j, .pointer (some ⟨Bs, 0, none⟩)] W fun e w' => e = .returned (.bool ((G i).less (G j))) ∧ ∃ q, w' = W.drewN q) :
    LessReads Try.prog g #[.pointer (some ⟨Bs, 0, none⟩)] F64.v F64.less b 0 xs.length W := by
  intro m os dk hs i j hi hj
  have hBl : Bs < W.heap.size := by
    unfold World.cell? at hBs
    cases e : W.heap[Bs]? with
    | none => simp [e] at hBs
    | some x => exact lt_of_heap e
  have e : sortWorld F64.v W b 0 m dk os = putRow F64.v (Sort.grow (Sort.ahead W m) os) b 0 dk := by
    unfold sortWorld; rw [putRow_grow _ (Sort.ahead W m) _ b 0 _ hb]
  have hHg : Holds F64.v (Sort.grow (Sort.ahead W m) os) b 0 xs.toArray := holds_grow _ _ _ b 0 _ hb (holds_ahead _ _ _ _ _ _ hH)
  refine hg _ (fun t => dk[t]!) ?_ (fun t ht => ?_) i j hi hj
  · rw [e, cell?_putRow_other _ _ b 0 dk _ (Or.inl hne), cell?_grow _ _ _ hBl]
    simpa using hBs
  · rw [e]; exact cell?_putRow _ _ b 0 _ dk hHg (by simpa using hs) t (by omega)

theorem own_holds {b c : Nat} {xs : List F64} {W : World} (hown : Own W 24 1 (.slice (some ⟨b, 0, none⟩) xs.length c) xs.length (fv (fbs xs))) : Holds F64.v W b 0 xs.toArray := by
  have hfx : (fbs xs).length = xs.length := by simp [fbs]
  intro j hj
  have hj' : j < xs.length := by simpa using hj
  refine ⟨?_, hown.frozenF _⟩
  obtain ⟨b', f', c', hv, _, _, _, hh⟩ := hown.rd.ptr (by omega)
  cases hv
  rw [hh j _ (fv_get (by omega))]
  simp [hj', fbs, List.getElem?_eq_getElem hj']
/-- The sort of a variable that holds a row of floats, by a closure over that variable. -/
theorem sort_var (v : Value) (Bs g : Nat) (xs : List F64) (W : World) (hlt : xs.length < 4294967296) (hown : Own W 24 1 v xs.length (fv (fbs xs))) (hne : Bs ∉ ob v) (hBs : W.cell? ⟨Bs, 0, none⟩ = some v)
    (eg : ∀ args w, (callFunc g args).run Try.prog w = .ok (.enter g args) w)
    (hg : ∀ (b c : Nat) (W : World) (G : Nat → F64), W.cell? ⟨Bs, 0, none⟩ = some (.slice (some ⟨b, 0, none⟩) xs.length c) → (∀ t, t < xs.length → W.cell? ⟨b, 0 + t, none⟩ = some (.float .f64 (G t).b)) → ∀ i j, i < xs.length → j < xs.length →
      Calls Try.prog g #[.int .i64 i, .int .i64 j, .pointer (some ⟨Bs, 0, none⟩)] W fun e w' => e = .returned (.bool ((G i).less (G j))) ∧ ∃ q, w' = W.drewN q) :
    Calls Try.prog 17 #[.iface 35 v, .func (.func g) #[] #[.pointer (some ⟨Bs, 0, none⟩)]] W fun e w' => e = .returned (.tuple #[]) ∧ SortedF v xs W w' := by
  refine stable_f64_any v xs W g _ eg (fun b c hv => ?_) hlt hown
  subst hv
  have hb : b < W.heap.size := hown.lt b (by simp [ob, Value.ownBlock])
  exact less_reads b c Bs xs W hlt (fun e => hne (by simp [ob, Value.ownBlock, e])) hb hBs (own_holds hown) g (hg b c)

noncomputable def edE : TypeInfo := (Try.prog.info? 33).get (by kernel_rfl)
theorem neq_ed (g : Gn) (w : World) : (binOp .neq 34 (.agg (edArr g)) (.agg (edArr g))).run Try.prog w = .ok (.bool false) w := by
  have hu : Try.prog.underlying 33 = some (.int .u32) := by kernel_rfl
  have hc : Try.prog.cellsOf 33 = 1 := by kernel_rfl
  have hp : ∀ (i : Nat) (v : Value), (edArr g)[i]? = some v → (part 33 (edArr g) i).run Try.prog w = .ok v w := fun i v h => by
    simp [part, isAgg, run_underlying hu, h]
  have h1 : (Op.equalIn Op.maxDepth 34 (.agg (edArr g)) (.agg (edArr g))).run Try.prog w = .ok true w := by
    have := run_equalIn_array (P := Try.prog) w 9999 (t := 34) (e := 33) (n := 6) (i := edE) (edArr g) (edArr g) (by kernel_rfl) (by kernel_rfl)
    rw [show Op.maxDepth = 9999 + 1 from rfl, this, hc]
    have q := fun n : Int => run_equalIn_int (P := Try.prog) w 9998 33 .u32 .u32 n n hu
    simp only [beq_self_eq_true] at q
    have p0 := hp 0 _ rfl
    have p1 := hp 1 _ rfl
    have p2 := hp 2 _ rfl
    have p3 := hp 3 _ rfl
    have p4 := hp 4 _ rfl
    have p5 := hp 5 _ rfl
    simp [List.range, List.range.loop, Op.eqItems, p0, p1, p2, p3, p4, p5, q]
  simp only [binOp]
  simp [Op.equal, h1]

theorem check_zero {k : Int} {xs : List Nat} {lo hi : Nat} {r : Int} (h : checkT k xs lo hi r) (h1 : 1 ≤ k) (h2 : k ≤ 16) (h3 : (xs.length : Int) ≤ k) (h4 : Risen xs) (h5 : Fl.nan lo = false) (h6 : Fl.nan hi = false) : r = 0 := by
  rcases h with ⟨h, _⟩ | ⟨_, ⟨h, _⟩ | ⟨_, ⟨h, _⟩ | ⟨_, h⟩⟩⟩
  · omega
  · exact absurd h4 h
  · rw [h5, h6] at h; cases h
  · exact h
theorem lt_of_cell' {w : World} {b o : Nat} {v : Value} (h : w.cell? ⟨b, o, none⟩ = some v) : b < w.heap.size := by
  unfold World.cell? at h
  cases e : w.heap[b]? with
  | none => simp [e] at h
  | some x => exact lt_of_heap e

/-- What holds at the head of a round of GaugeAdds' loop. -/
structure Gg.Ad (w wr : World) (B5 B6 B7 : Nat) (K : Int) (g : Gn) (v5 v6 : Value) (zs bs : List Nat) (h : Gn) : Prop where
  tr : Tr [] w wr
  s5 : wr.heap[B5]? = some (.cells (g.val K v5) 37 (0, 0))
  s6 : wr.heap[B6]? = some (.cells #[v6] 35 (0, 0))
  s7 : wr.heap[B7]? = some (.cells (edArr h) 34 (0, 0))
  o5 : Own wr 24 1 v5 zs.length (fv zs)
  o6 : Own wr 24 1 v6 bs.length (fv bs)
  f5 : ∀ x ∈ ob v5, w.heap.size ≤ x ∧ x ≠ B5 ∧ x ≠ B6 ∧ x ≠ B7
  f6 : ∀ x ∈ ob v6, w.heap.size ≤ x ∧ x ≠ B5 ∧ x ≠ B6 ∧ x ≠ B7 ∧ x ∉ ob v5
  n5 : w.heap.size ≤ B5
  n6 : w.heap.size ≤ B6 ∧ B6 ≠ B5
  n7 : w.heap.size ≤ B7 ∧ B7 ≠ B5 ∧ B7 ≠ B6

section
variable {w wr w4 w5 : World} {B5 B6 B7 : Nat} {K : Int} {g h : Gn} {v5 v6 v' : Value} {zs bs : List Nat}
theorem Gg.Ad.keep5 (a : Gg.Ad w wr B5 B6 B7 K g v5 v6 zs bs h) (t4 : Tr [] wr w4) (t5 : Tr (ob v6) w4 w5) {b : Nat} {o : Obj} (hb : b ∉ ob v6) (he : wr.heap[b]? = some o) : w5.heap[b]? = some o := by
  have z := lt_of_heap he
  have z4 := t4.size
  rw [t5.block b (by omega) hb, t4.block b z (by simp)]
  exact he
theorem Gg.Ad.m5 (a : Gg.Ad w wr B5 B6 B7 K g v5 v6 zs bs h) (t4 : Tr [] wr w4) (t5 : Tr (ob v6) w4 w5) : w5.heap[B5]? = some (.cells (g.val K v5) 37 (0, 0)) :=
  a.keep5 t4 t5 (fun hm => (a.f6 _ hm).2.1 rfl) a.s5
theorem Gg.Ad.m6 (a : Gg.Ad w wr B5 B6 B7 K g v5 v6 zs bs h) (t4 : Tr [] wr w4) (t5 : Tr (ob v6) w4 w5) : w5.heap[B6]? = some (.cells #[v6] 35 (0, 0)) :=
  a.keep5 t4 t5 (fun hm => (a.f6 _ hm).2.2.1 rfl) a.s6
theorem Gg.Ad.m7 (a : Gg.Ad w wr B5 B6 B7 K g v5 v6 zs bs h) (t4 : Tr [] wr w4) (t5 : Tr (ob v6) w4 w5) : w5.heap[B7]? = some (.cells (edArr h) 34 (0, 0)) :=
  a.keep5 t4 t5 (fun hm => (a.f6 _ hm).2.2.2.1 rfl) a.s7
theorem Gg.Ad.step {n : Nat} (a : Gg.Ad w wr B5 B6 B7 K g v5 v6 zs bs h) (hi : GnInv n h) (hn : n < 1000) (t4 : Tr [] wr w4) (t5 : Tr (ob v6) w4 w5) (fb : Nat) (own : Own w5 24 1 v' (bs.length + 1) (fv bs ++ [.float .f64 fb]))
    (hb : ∀ x ∈ ob v', x ∈ ob v6 ∨ w4.heap.size ≤ x) {E : Nat} (hE : Fl.edgeT fb = E) (h6 : E < 6) :
    Gg.Ad w ((w5.setCell ⟨B6, 0, none⟩ v').setCell ⟨B7, E, none⟩ (.int .u32 (edAt h E + 1))) B5 B6 B7 K g v5 v' zs (bs ++ [fb]) (h.join (oneN fb)) := by
  have l5 := lt_of_heap a.s5
  have l6 := lt_of_heap a.s6
  have l7 := lt_of_heap a.s7
  have z4 := t4.size
  have z5 := t5.size
  have zr := a.tr.size
  obtain ⟨n7a, n7b, n7c⟩ := a.n7
  obtain ⟨n6a, n6b⟩ := a.n6
  have n5 := a.n5
  have f6' : ∀ x ∈ ob v', w.heap.size ≤ x ∧ x ≠ B5 ∧ x ≠ B6 ∧ x ≠ B7 ∧ x ∉ ob v5 := fun x hx => by
    rcases hb x hx with h | h
    · exact a.f6 x h
    · exact ⟨by omega, by omega, by omega, by omega, fun hm => by have := a.o5.lt x hm; omega⟩
  have TS : Tr [B6, B7] w5 ((w5.setCell ⟨B6, 0, none⟩ v').setCell ⟨B7, E, none⟩ (.int .u32 (edAt h E + 1))) := ((Tr.refl _ _).setCell (.inl (by simp)) _).setCell (.inl (by simp)) _
  refine ⟨?_, ?_, ?_, ?_, ?_, ?_, a.f5, f6', n5, a.n6, a.n7⟩
  · refine ((a.tr.trans t4 (by simp)).trans t5 (fun x hx => .inr (a.f6 x hx).1)).trans TS (fun x hx => .inr ?_)
    simp at hx; omega
  · rw [TS.block _ (by have := lt_of_heap (a.m5 t4 t5); exact this) (by simp; omega)]
    exact a.m5 t4 t5
  · rw [heap_setCell_ne (by simp; omega)]
    exact heap_setCell (o := 0) (a.m6 t4 t5) v'
  · have e := heap_setCell (o := E) (w := w5.setCell ⟨B6, 0, none⟩ v') (by rw [heap_setCell_ne (by simp; omega)]; exact a.m7 t4 t5) (.int .u32 (edAt h E + 1))
    rw [edArr_step hi hn fb hE h6] at e
    exact e
  · refine ((a.o5.keep' t4).keep t5 (fun x hx hm => (a.f6 x hm).2.2.2.2 hx)).keep TS (fun x hx => ?_)
    have := a.f5 x hx
    simp; omega
  · have e1 : (bs ++ [fb]).length = bs.length + 1 := by simp
    have e2 : fv (bs ++ [fb]) = fv bs ++ [.float .f64 fb] := by simp [fv]
    rw [e1, e2]
    exact own.keep TS (fun x hx => by have := f6' x hx; simp; omega)
end

set_option maxRecDepth 100000 in
set_option maxHeartbeats 16000000 in
theorem gauge_adds (w : World) (k : Int) (vl : Value) (l : List (Int × Int)) (h : RdV w 2 vl l.length (itv l)) (hok : Hid (ItOk l)) (hk0 : 0 ≤ k) (hk1 : k ≤ 255) :
    Calls Try.prog 4 #[.int .u8 k, vl] w fun e w' => e = .returned (.bool true) ∧ Tr [] w w' := by
  have sf := store_f
  obtain ⟨A, c, rfl, hoc⟩ := h.slice
  by_cases hl : 60 < l.length
  · have d1 : decide ((60 : Int) < l.length) = true := decide_eq_true (by omega)
    go_enter Try.func4, Try.ntmps4
    go_wp2_with (go_at_call 12; refine (awake16 _).mono ?_; rintro e w2 ⟨rfl, ht2⟩)
    go_ret
    exact ⟨rfl, ht2⟩
  have d1 : decide ((60 : Int) < l.length) = false := decide_eq_false (by omega)
  have hlb : l.length ≤ 60 := by omega
  obtain ⟨K, hK⟩ : ∃ K, K = 1 + k % 16 := ⟨_, rfl⟩
  have hKb : 1 ≤ K ∧ K ≤ 16 := by omega
  obtain ⟨hK1, hK2⟩ := hKb
  have e0 : k.tmod 16 = k % 16 := Int.tmod_eq_emod_of_nonneg hk0
  have e4 : 1 + k % 16 = K := hK.symm
  have H := Lib.hid h
  have LG : Hid (∀ w2, Tr [] w w2 → Calls Try.prog 13 #[.int .u8 k, .slice A l.length c] w2 (Gg.Gives w2 K (gN (itf l)) (gL K.toNat (itf l)))) := Lib.hid fun w2 t => by
    have := law_gauge w2 k _ l (h.keep' t) hok hk0 hk1 hlb
    rw [← hK] at this; exact this
  obtain ⟨G, hG⟩ : ∃ G, G = gN (itf l) := ⟨_, rfl⟩
  obtain ⟨Z, hZ⟩ : ∃ Z, Z = gL K.toNat (itf l) := ⟨_, rfl⟩
  rw [← hG, ← hZ] at LG
  have HG := Lib.hid hG
  have HZ := Lib.hid hZ
  clear h hK hl hG hZ
  go_enter Try.func4, Try.ntmps4
  go_wp2_with (first
    | (go_at_call 12; refine (awake16 _).mono ?_; rintro e w2 ⟨rfl, ht2⟩; have HT2 := Lib.hid ht2; clear ht2)
    | (go_at_call 13; refine (LG.out _ HT2.out).mono ?_; rintro e w3 ⟨v3, rfl, ho3, ht3, hf3⟩; obtain ⟨A3, c3, rfl, _⟩ := ho3.rd.slice; have HO3 := Lib.hid ho3; have HT3 := Lib.hid ht3; have HF3 := Lib.hid hf3; clear ho3 ht3 hf3)
    | (go_at_call 14; (with_reducible refine (inf_p _).mono ?_); rintro e w' ⟨rfl, rfl⟩) | (go_at_call 14; (with_reducible refine (inf_n _).mono ?_); rintro e w' ⟨rfl, rfl⟩))
  have ST0 : Gg.Ad w (((w3.alloc (.cells (G.val K (.slice A3 Z.length c3)) 37)).alloc (.cells #[.slice none 0 0] 35)).alloc (.cells (edArr (gN [])) 34)) w3.heap.size (w3.heap.size + 1) (w3.heap.size + 1 + 1) K G (.slice A3 Z.length c3) (.slice none 0 0) Z [] (gN []) := by
    have z2 := HT2.out.size
    have z3 := HT3.out.size
    refine ⟨(((HT2.out.trans HT3.out (by simp)).alloc _).alloc _).alloc _, heap_old _ (heap_old _ (heap_new _ _)), heap_old _ (heap_at _ (by rw [szB])), heap_at _ (by rw [szB, szB]), ((HO3.out.alloc _).alloc _).alloc _, Own.nil _ _ _, fun x hx => ?_, by simp [ob, Value.ownBlock], by omega, by omega, by omega⟩
    have h1 := HF3.out x hx
    have h2 := HO3.out.lt x hx
    omega
  have ST := Lib.hid ST0
  have HB5 : Hid (w.heap.size ≤ w3.heap.size) := Lib.hid (Nat.le_trans HT2.out.size HT3.out.size)
  clear ST0
  go_loopw [8, 9, 28] (fun v8 v9 vi wr => ∃ (i : Nat) (v6 : Value) (h : Gn), v8 = .float .f64 h.lo ∧ v9 = .float .f64 h.hi ∧ vi = .int .i64 i ∧ i ≤ l.length ∧ Hid (h = gN (itf (l.take i))) ∧ Hid (Gg.Ad w wr w3.heap.size (w3.heap.size + 1) (w3.heap.size + 1 + 1) K G (.slice A3 Z.length c3) v6 Z (itf (l.take i)) h)) (fun _ _ vi _ => l.length - gint vi)
  case atStart => exact ⟨0, _, gN [], rfl, rfl, rfl, by omega, Lib.hid rfl, ST⟩
  case round =>
    clear ST
    obtain ⟨i, v6, hh, rfl, rfl, rfl, hi, hhe, st⟩ := hrel
    have itl : (itf (l.take i)).length = i := by simp [itf]; omega
    have inv : Hid (GnInv i hh) := Lib.hid (by
      have := gN_inv (itf (l.take i)) (by omega) (fun b hb => itf_lt hok.out b (by
        unfold itf at *; rw [List.map_take] at hb; exact List.mem_of_mem_take hb))
      rw [itl] at this; rw [hhe.out]; exact this)
    have ITL := Lib.hid itl
    clear itl
    by_cases hlt : i < l.length
    · have hlt' : (i : Int) < l.length := by omega
      obtain ⟨b, f, c', hv, _, _, _, hcell⟩ := (H.out.keep' st.out.tr).ptr (by omega)
      cases hv
      obtain ⟨g1, g2⟩ := itv_get l i hlt
      have c1 := hcell _ _ g1
      have c2 := hcell _ _ g2
      have SN := Lib.hid (itf_snoc hlt)
      obtain ⟨P, hP⟩ : ∃ P, P = l.getD i (0, 0) := ⟨_, rfl⟩
      rw [← hP] at c1 c2 SN
      have hPm : P ∈ l := by rw [hP]; simp [hlt]
      obtain ⟨p1, p2, p3⟩ := hok.out P hPm
      have HB := Lib.hid (floatT_lt P.1 P.2 p1 p2)
      have FT := fun w' => item_float P.1 P.2 p1 p3 w'
      obtain ⟨fb, hfb⟩ : ∃ fb, fb = Fl.floatT P.1 P.2 := ⟨_, rfl⟩
      rw [← hfb] at SN HB FT
      have HFT := Lib.hid FT
      have ER := edge_range HB.out
      obtain ⟨E, hE, hE6⟩ : ∃ E : Nat, Fl.edgeT fb = E ∧ E < 6 := by
        rcases ER with e | e | e | e | e | e
        · exact ⟨0, e, by omega⟩
        · exact ⟨1, e, by omega⟩
        · exact ⟨2, e, by omega⟩
        · exact ⟨3, e, by omega⟩
        · exact ⟨4, e, by omega⟩
        · exact ⟨5, e, by omega⟩
      have hE6' : (E : Int) < 6 := by omega
      have HE := Lib.hid hE
      have TN := nan_eq HB.out
      have RL1 := Lib.hid (fun w' => rless_any fb hh.lo HB.out inv.out.lo w')
      have RL2 := Lib.hid (fun w' => rless_any hh.hi fb inv.out.hi HB.out w')
      have LS := Lib.hid (low_step inv.out fb HB.out)
      have HS := Lib.hid (high_step inv.out fb HB.out)
      have ED := edAt_range inv.out E
      obtain ⟨ea, hea⟩ : ∃ ea, ea = edAt hh E := ⟨_, rfl⟩
      rw [← hea] at ED
      obtain ⟨ed1, ed2⟩ := ED
      have EA := Lib.hid hea
      have lo6 : Own wr 24 1 v6 i (fv (itf (l.take i))) := by have := st.out.o6; rw [ITL.out] at this; exact this
      have HO6 := Lib.hid lo6
      clear hP hPm g1 g2 hcell p1 p2 p3 FT hfb ER hE hea lo6
      rw [← Nat.add_assoc] at c2
      have HTN := Lib.hid TN
      clear TN
      cases hnb : Fl.nan fb
      · have TN : (FloatKind.f64.format.order fb fb == some Ordering.eq) = true := by rw [HTN.out, hnb]; rfl
        cases q1 : decide (Fl.keyT fb < Fl.keyT hh.lo) <;> cases q2 : decide (Fl.keyT hh.hi < Fl.keyT fb)
        all_goals
          have HQ := Lib.hid (And.intro hnb (And.intro q1 q2))
          clear hnb q1 q2
          go_wp2_with (first
            | (go_at_call 15; refine (HFT.out _).mono ?_; rintro e w4 ⟨rfl, ht4⟩; have HT4 := Lib.hid (((Tr.refl [] wr).alloc _).trans ht4 (by simp)); have s6 := (HT4.out.block _ (lt_of_heap st.out.s6) (by simp)).trans st.out.s6; have c6 := cell_cells s6 0; simp at c6; clear ht4 s6)
            | (at_builtin; refine wpList_app rfl (.tmp 34) (.tmp 36) 35 rfl 24 1 8 elF i 1 (fv (itf (l.take i))) [.float .f64 fb] ((HO6.out.keep' HT4.out).alloc _) (rd_one _ 24 (.float .f64 fb) rfl) (by omega) (by omega) ?_; intro v' w5 hown5 ht5 hb5; have m6 := st.out.m6 (HT4.out.alloc _) ht5; have m7 := st.out.m7 (HT4.out.alloc _) ht5; have SP := Lib.hid (st.out.step inv.out (by omega) (HT4.out.alloc _) ht5 fb (by rw [ITL.out]; exact hown5) hb5 HE.out hE6); rw [← EA.out] at SP; have c6' := cell_cells m6 0; have fr6 := frozen_cells m6 0; have c7 := (cell_cells m7 E).trans (edArr_get hh hE6); rw [← EA.out] at c7; have fr7 := frozen_cells m7 E; simp at c6'; obtain ⟨g6, cap6, rfl, _⟩ := hown5.form (by omega); clear hown5 ht5 hb5 m6 m7)
            | (go_at_call 11; refine (edge_any _ _).mono ?_; rintro e w' ⟨rfl, rfl⟩; rw [HE.out])
            | (go_at_call 16; (with_reducible refine (RL1.out _).mono ?_); rintro e w' ⟨rfl, rfl⟩; rw [HQ.out.2.1])
            | (go_at_call 16; (with_reducible refine (RL2.out _).mono ?_); rintro e w' ⟨rfl, rfl⟩; rw [HQ.out.2.2]))
          go_roundw
          case rel =>
            have L := LS.out
            have Hh := HS.out
            have d1 := HQ.out.1
            have d2 := HQ.out.2.1
            have d3 := HQ.out.2.2
            simp only [decide_eq_true_eq, decide_eq_false_iff_not] at d2 d3
            refine ⟨i + 1, .slice (some ⟨g6, 0, none⟩) (i + 1) cap6, hh.join (oneN fb), ?_, ?_, by simp, by omega, Lib.hid ?_, Lib.hid ?_⟩
            · rw [L]; simp [d1, d2]
            · rw [Hh]; simp [d1, d3]
            · rw [SN.out, gN_snoc, ← hhe.out]
            · rw [SN.out]; exact SP.out
          case measure => simp only [gint]; omega
      · have TN : (FloatKind.f64.format.order fb fb == some Ordering.eq) = false := by rw [HTN.out, hnb]; rfl
        have HQ := Lib.hid hnb
        clear hnb
        go_wp2_with (first
          | (go_at_call 15; refine (HFT.out _).mono ?_; rintro e w4 ⟨rfl, ht4⟩; have HT4 := Lib.hid (((Tr.refl [] wr).alloc _).trans ht4 (by simp)); have s6 := (HT4.out.block _ (lt_of_heap st.out.s6) (by simp)).trans st.out.s6; have c6 := cell_cells s6 0; simp at c6; clear ht4 s6)
          | (at_builtin; refine wpList_app rfl (.tmp 34) (.tmp 36) 35 rfl 24 1 8 elF i 1 (fv (itf (l.take i))) [.float .f64 fb] ((HO6.out.keep' HT4.out).alloc _) (rd_one _ 24 (.float .f64 fb) rfl) (by omega) (by omega) ?_; intro v' w5 hown5 ht5 hb5; have m6 := st.out.m6 (HT4.out.alloc _) ht5; have m7 := st.out.m7 (HT4.out.alloc _) ht5; have SP := Lib.hid (st.out.step inv.out (by omega) (HT4.out.alloc _) ht5 fb (by rw [ITL.out]; exact hown5) hb5 HE.out hE6); rw [← EA.out] at SP; have c6' := cell_cells m6 0; have fr6 := frozen_cells m6 0; have c7 := (cell_cells m7 E).trans (edArr_get hh hE6); rw [← EA.out] at c7; have fr7 := frozen_cells m7 E; simp at c6'; obtain ⟨g6, cap6, rfl, _⟩ := hown5.form (by omega); clear hown5 ht5 hb5 m6 m7)
          | (go_at_call 11; refine (edge_any _ _).mono ?_; rintro e w' ⟨rfl, rfl⟩; rw [HE.out]))
        go_roundw
        case rel =>
          have L := LS.out
          have Hh := HS.out
          refine ⟨i + 1, .slice (some ⟨g6, 0, none⟩) (i + 1) cap6, hh.join (oneN fb), ?_, ?_, by simp, by omega, Lib.hid ?_, Lib.hid ?_⟩
          · rw [L]; simp [HQ.out]
          · rw [Hh]; simp [HQ.out]
          · rw [SN.out, gN_snoc, ← hhe.out]
          · rw [SN.out]; exact SP.out
        case measure => simp only [gint]; omega
    · obtain rfl : i = l.length := by omega
      rw [List.take_length] at st hhe ITL
      have hg : hh = G := by rw [hhe.out, HG.out]
      subst hg
      obtain ⟨A6, c6, rfl, _⟩ := st.out.o6.rd.slice
      rw [ITL.out] at st
      have itl2 : (itf l).length = l.length := ITL.out
      have blt := itf_lt hok.out
      have hfb : fbs ((itf l).map F64.of) = itf l := fbs_of blt
      have hxl : ((itf l).map F64.of).length = l.length := by rw [List.length_map]; exact itl2
      have SORT : Hid (Calls Try.prog 17 #[.iface 35 (.slice A6 l.length c6), .func (.func 18) #[] #[.pointer (some ⟨w3.heap.size + 1, 0, none⟩)]] wr fun e w' => e = .returned (.tuple #[]) ∧ SortedF (.slice A6 l.length c6) ((itf l).map F64.of) wr w') := Lib.hid (by
        have own : Own wr 24 1 (.slice A6 l.length c6) ((itf l).map F64.of).length (fv (fbs ((itf l).map F64.of))) := by
          rw [hfb, hxl]; have := st.out.o6; rw [itl2] at this; exact this
        refine sort_var _ _ _ _ wr (by omega) own (fun hm => (st.out.f6 _ hm).2.2.1 rfl) (by have := cell_cells st.out.s6 0; simpa using this) (enters_of Try.func18 (by kernel_rfl) rfl) (fun b c W G h1 h2 i j hi hj => ?_)
        exact less_cl b 0 c _ _ W G h1 (by omega) h2 i j hi hj)
      have LK : Hid (Z.map Fl.keyT = (itf l).map Fl.keyT ∨ True) := Lib.hid (.inr trivial)
      clear LK
      have c6r : wr.cell? ⟨w3.heap.size + 1, 0, none⟩ = some (.slice A6 l.length c6) := by have := cell_cells st.out.s6 0; simpa using this
      have HFB := Lib.hid (And.intro hfb (And.intro hxl blt))
      clear hfb hxl blt
      have zl : Z.length = min K.toNat l.length := by rw [HZ.out, gL_length _ _ HFB.out.2.2, itl2]
      have e5 : min (l.length : Int) K = (Z.length : Int) := by omega
      have zk : (Z.length : Int) ≤ K := by omega
      have zl2 : Z.length ≤ l.length := by omega
      have ZL := Lib.hid zl
      clear zl hlt
      have nef := neq_ed hh
      have hw : wrap64 hh.many = l.length := by rw [inv.out.many]; unfold wrap64; omega
      have ZR : Hid (Risen Z) := Lib.hid (by rw [HZ.out]; exact gL_risen _ _ HFB.out.2.2)
      clear itl2
      go_wp2_with (first
        | (go_at_call 17; refine SORT.out.mono ?_; rintro e w5 ⟨rfl, ht5, ys, hp, hs, hr⟩; have HT5 := Lib.hid ht5; have HP := Lib.hid hp; have HS := Lib.hid hs; have HR := Lib.hid hr; clear ht5 hp hs hr; have m5 := (HT5.out.block _ (lt_of_heap st.out.s5) (fun hm => (st.out.f6 _ hm).2.1 rfl)).trans st.out.s5; have m6 := (HT5.out.block _ (lt_of_heap st.out.s6) (fun hm => (st.out.f6 _ hm).2.2.1 rfl)).trans st.out.s6; have m7 := (HT5.out.block _ (lt_of_heap st.out.s7) (fun hm => (st.out.f6 _ hm).2.2.2.1 rfl)).trans st.out.s7; clear c6r; have c6r := cell_cells m6 0; have d0 := cell_cells m5 0; have d1 := cell_cells m5 1; have d2 := cell_cells m5 2; have d3 := cell_cells m5 3; have d4 := cell_cells m5 4; have d5 := cell_cells m5 5; have d6 := cell_cells m5 6; have d7 := cell_cells m5 7; have d8 := cell_cells m5 8; have d9 := cell_cells m5 9; have dA := cell_cells m5 10; have u0 := cell_cells m7 0; have u1 := cell_cells m7 1; have u2 := cell_cells m7 2; have u3 := cell_cells m7 3; have u4 := cell_cells m7 4; have u5 := cell_cells m7 5; simp at c6r d0 d1 d2 d3 d4 d5 d6 d7 d8 d9 dA u0 u1 u2 u3 u4 u5; clear m5 m6 m7)
        | (go_at_call 19; refine (fsame_any _ _ _).mono ?_; rintro e w' ⟨rfl, rfl⟩; rw [beq_self_eq_true])
        | (go_at_call 20; refine (gauge_check _ K hh _ Z ((st.out.o5.keep HT5.out (fun x hx hm => (st.out.f6 x hm).2.2.2.2 hx)).rd) (by omega) (Lib.hid inv.out.lo) (Lib.hid inv.out.hi)).mono ?_; rintro e w6 ⟨r, rfl, hq, ht6⟩; obtain rfl : r = 0 := check_zero hq hK1 hK2 zk ZR.out inv.out.nlo inv.out.nhi; have HT6 := Lib.hid ht6; have c6s := (HT6.out.cell (p := ⟨w3.heap.size + 1, 0, none⟩) (lt_of_cell' c6r) (by simp)).trans c6r; have dAs := (HT6.out.cell (p := ⟨w3.heap.size, 10, none⟩) (lt_of_cell' dA) (by simp)).trans dA; clear hq ht6 c6r d0 d1 d2 d3 d4 d5 d6 d7 d8 d9 dA u0 u1 u2 u3 u4 u5))
      have KEY : Hid (∀ i, i < Z.length → Fl.keyT (Z.getD i 0) = Fl.keyT ((fbs ys).getD i 0)) := Lib.hid (by
        have hp := fbs_perm HP.out
        rw [HFB.out.1] at hp
        have hk := gL_sorted K.toNat (itf l) HFB.out.2.2 ys hp HS.out
        rw [← HZ.out] at hk
        intro i hi
        have h1 := congrArg (fun t : List Int => t[i]?) hk
        have hy : (fbs ys).length = l.length := by rw [hp.length_eq]; exact ITL.out
        have hi2 : i < (fbs ys).length := by rw [hy]; omega
        have hi3 : i < K.toNat := by omega
        simp only [List.getElem?_map, List.getElem?_take, List.getElem?_eq_getElem hi, List.getElem?_eq_getElem hi2, if_pos hi3, Option.map_some, Option.some.injEq] at h1
        simp only [List.getD_eq_getElem?_getD, List.getElem?_eq_getElem hi, List.getElem?_eq_getElem hi2, Option.getD_some]
        exact h1)
      have R5 : Hid (RdV w6 1 (.slice A3 Z.length c3) Z.length (fv Z)) := Lib.hid ((st.out.o5.keep HT5.out (fun x hx hm => (st.out.f6 x hm).2.2.2.2 hx)).rd.keep' HT6.out)
      have R6 : Hid (RdV w6 1 (.slice A6 l.length c6) l.length (fv (fbs ys))) := Lib.hid (by have := HR.out.keep' HT6.out; rw [HFB.out.2.1] at this; exact this)
      have TT : Hid (Tr [] w w6) := Lib.hid ((st.out.tr.trans HT5.out (fun x hx => .inr (st.out.f6 x hx).1)).trans HT6.out (by simp))
      have yl : Hid ((fbs ys).length = l.length) := Lib.hid (by have := (fbs_perm HP.out).length_eq; rw [HFB.out.1, ITL.out] at this; exact this)
      clear st inv
      go_loopw [113] (fun vi wq => ∃ i : Nat, vi = .int .i64 i ∧ i ≤ Z.length ∧ Hid (Tr [] w6 wq)) (fun vi _ => Z.length - gint vi)
      case atStart => exact ⟨0, rfl, by omega, Lib.hid (Tr.refl _ _)⟩
      case round =>
        obtain ⟨i, rfl, hiZ, tq⟩ := hrel
        have x6 := (tq.out.cell (p := ⟨w3.heap.size + 1, 0, none⟩) (lt_of_cell' c6s) (by simp)).trans c6s
        have xA := (tq.out.cell (p := ⟨w3.heap.size, 10, none⟩) (lt_of_cell' dAs) (by simp)).trans dAs
        by_cases hlt : i < Z.length
        · have hlt' : (i : Int) < Z.length := by omega
          have hlt2 : (i : Int) < l.length := by omega
          obtain ⟨b3, f3, k3, hv3, _, _, _, h3⟩ := (R5.out.keep' tq.out).ptr (by omega)
          cases hv3
          obtain ⟨b6, f6, k6, hv6, _, _, _, h6⟩ := (R6.out.keep' tq.out).ptr (by omega)
          cases hv6
          have e3 := h3 i _ (fv_get hlt)
          have e6 := h6 i _ (fv_get (by rw [yl.out]; omega))
          have hkey := KEY.out i hlt
          have SQ : Hid (∀ w', Calls Try.prog 19 #[.float .f64 (Z.getD i 0), .float .f64 ((fbs ys).getD i 0)] w' fun e w'' => e = .returned (.bool true) ∧ w' = w'') := Lib.hid (fun w' => by
            have := fsame_any (Z.getD i 0) ((fbs ys).getD i 0) w'; rw [hkey, beq_self_eq_true] at this; exact this)
          generalize Z.getD i 0 = p at e3 SQ
          generalize (fbs ys).getD i 0 = q at e6 SQ
          clear hkey h3 h6 c6s dAs
          go_wp2
          go_quiet ((go_at_call 19; exact (SQ.out _).mono fun _ _ ⟨h, e⟩ => ⟨h, _, e.symm⟩))
          go_wp2
          go_roundw
          case rel => exact ⟨i + 1, by simp, by omega, Lib.hid (tq.out.drewN _)⟩
          case measure => simp only [gint]; omega
        · obtain rfl : i = Z.length := by omega
          clear c6s dAs
          go_wp2
          go_ret
          exact ⟨rfl, TT.out.trans tq.out (by simp)⟩
end Go.Proofs.Ytncnkfjddolabaa
