/- Walks: law 12's Kmv. -/
import Derived.Test.YtncnkfjddolabaaKs
set_option linter.unusedVariables false
set_option linter.unusedSimpArgs false
namespace Go.Proofs.Ytncnkfjddolabaa
open Go Go.RowKit

theorem getD_mem {l : List Int} {i : Nat} (h : i < l.length) : l.getD i 0 ∈ l := by
  have : l.getD i 0 = l[i] := by simp [List.getElem?_eq_getElem h]
  rw [this]; exact List.getElem_mem h
def Kmv.hv (few : Bool) (h : Int) : Int := if few then h % 30 else h
def Kmv.all (K : Nat) (hs : List Int) : List Int := hs.foldl (fun zs h => (Kmv.union zs [h]).take K) []
theorem Kmv.all_step (K : Nat) (few : Bool) (l : List Int) (i : Nat) (h : i < l.length) :
    Kmv.all K ((l.take (i + 1)).map (Kmv.hv few)) = (Kmv.union (Kmv.all K ((l.take i).map (Kmv.hv few))) [Kmv.hv few (l.getD i 0)]).take K := by
  have e : l.take (i + 1) = l.take i ++ [l.getD i 0] := by rw [List.take_add_one]; simp [List.getElem?_eq_getElem h]
  rw [e, List.map_append]
  simp only [Kmv.all, List.foldl_append, List.map_cons, List.map_nil, List.foldl_cons, List.foldl_nil]
theorem Kmv.all_len (K : Nat) (hs : List Int) : (Kmv.all K hs).length ≤ K := by
  unfold Kmv.all
  rcases List.eq_nil_or_concat hs with rfl | ⟨l, x, rfl⟩
  · simp
  · simp only [List.concat_eq_append, List.foldl_append, List.foldl_cons, List.foldl_nil, List.length_take]; omega

/-- What holds at the head of a round of law 12's Kmv. -/
structure Kmv.Sl (w wr : World) (K : Int) (v : Value) (zs : List Int) : Prop where
  tr : Tr [] w wr
  o : wr.heap[w.heap.size]? = some (.cells #[.int .i64 0, .slice none 0 0] 55 (0, 0))
  s : wr.heap[w.heap.size + 1]? = some (.cells #[.int .i64 K, v] 55 (0, 0))
  own : Own wr 22 1 v zs.length (iv .u64 zs)
  far : ∀ x ∈ ob v, w.heap.size + 2 ≤ x

theorem Kmv.Sl.add {w wr : World} {K h : Int} {v : Value} {zs zs' : List Int} (st : Kmv.Sl w wr K v zs) (hK : K < 4294967296) (h0 : 0 ≤ K) (hz : zs.length < 4294967296) (e : zs' = (Kmv.union zs [h]).take K.toNat) :
    Calls Try.prog 43 #[.agg #[.int .i64 K, v], .int .u64 h] wr fun e w' => ∃ A c, e = .returned (.agg #[.int .i64 K, .slice A zs'.length c]) ∧
      w'.heap[w.heap.size + 1]? = some (.cells #[.int .i64 K, v] 55 (0, 0)) ∧
      Hid (Kmv.Sl w ((w'.setCell ⟨w.heap.size + 1, 0, none⟩ (.int .i64 K)).setCell ⟨w.heap.size + 1, 1, none⟩ (.slice A zs'.length c)) K (.slice A zs'.length c) zs') := by
  refine (kmv_add wr K h v zs st.own.rd hK h0 hz).mono ?_
  rw [← e]
  rintro e' w' ⟨v', rfl, hown, ht, hf⟩
  obtain ⟨A, c, rfl, _⟩ := hown.rd.slice
  have hs := lt_of_heap st.s
  have hsz := ht.size
  have hf' : ∀ x ∈ ob (.slice A zs'.length c), w.heap.size + 2 ≤ x := fun x hx => by have := hf x hx; omega
  have b1 := (ht.block (w.heap.size + 1) (by omega) (by simp)).trans st.s
  have b0 := (ht.block (w.heap.size) (by omega) (by simp)).trans st.o
  refine ⟨A, c, rfl, b1, Lib.hid ⟨?_, ?_, ?_, ?_, hf'⟩⟩
  · exact ((st.tr.trans ht (by simp)).setCell (.inr (by simp)) _).setCell (.inr (by simp)) _
  · rw [heap_setCell_ne (by simp), heap_setCell_ne (by simp)]
    exact b0
  · have := heap_setCell (o := 1) (heap_setCell (o := 0) b1 (.int .i64 K)) (.slice A zs'.length c)
    simpa using this
  · exact hown.keep (S := [w.heap.size + 1]) (((Tr.refl _ _).setCell (by simp) _).setCell (by simp) _) (fun x hx => by have := hf' x hx; simp; omega)

set_option maxRecDepth 100000 in
set_option maxHeartbeats 4000000 in
theorem kmv_law (w : World) (k : Int) (few : Bool) (vl : Value) (l : List Int) (hl : RdV w 1 vl l.length (iv .u64 l)) (h0 : 0 ≤ k) (h1 : k < 256) (hn : l.length < 4294967296) (hu : ∀ x ∈ l, 0 ≤ x ∧ x < 18446744073709551616) :
    Calls Try.prog 25 #[.int .u8 k, vl, .bool few] w (Kmv.Gives w (1 + k % 20) (Kmv.all (1 + k % 20).toNat (l.map (Kmv.hv few)))) := by
  obtain ⟨A, c, rfl, hoc⟩ := hl.slice
  obtain ⟨K, hK⟩ : ∃ K, K = 1 + k % 20 := ⟨_, rfl⟩
  have hKb : 1 ≤ K ∧ K ≤ 20 := by omega
  rw [← hK]
  have H := Lib.hid hK
  have hu' := Lib.hid hu
  clear hK hu
  go_enter Try.func25, Try.ntmps25
  go_wp2
  have hK := H.out
  simp only [← hK]
  clear hK
  go_loopw [17] (fun a wr => ∃ (i : Nat) (v : Value), a = .int .i64 i ∧ i ≤ l.length ∧ Kmv.Sl w wr K v (Kmv.all K.toNat ((l.take i).map (Kmv.hv few)))) (fun a _ => l.length - sint a)
  case atStart =>
    refine ⟨0, .slice none 0 0, by simp, by omega, ⟨?_, ?_, ?_, ?_, ?_⟩⟩
    · exact ((Tr.refl [] w).alloc _).alloc _
    · exact heap_old _ (heap_new _ _)
    · exact heap_new' (w := w.alloc _) _ (by rw [szA])
    · exact Own.nil _ _ _
    · simp [ob, Value.ownBlock]
  case round =>
    obtain ⟨i, v, rfl, hi, st⟩ := hrel
    have hlen := Kmv.all_len K.toNat ((l.take i).map (Kmv.hv few))
    by_cases hlt : i < l.length
    · obtain ⟨b, f, c', hv, hc2, hm2, hb2, hcell2⟩ := (hl.keep' st.tr).ptr (by omega)
      cases hv
      have c1 := hcell2 i _ (iv_get hlt)
      have hlt' : ((i : Int) < l.length) := by omega
      have hx := hu'.out (l.getD i 0) (getD_mem hlt)
      have HS := Lib.hid (Kmv.all_step K.toNat few l i hlt)
      have HE : ∃ zs', zs' = Kmv.all K.toNat ((l.take (i + 1)).map (Kmv.hv few)) := ⟨_, rfl⟩
      generalize Kmv.all K.toNat ((l.take i).map (Kmv.hv few)) = zs at *
      obtain ⟨zs', HE0⟩ := HE
      rw [← HE0] at HS
      have HE := Lib.hid HE0
      clear HE0
      generalize l.getD i 0 = x at *
      obtain ⟨A0, c0, rfl, _⟩ := st.own.rd.slice
      have s0 := cell_cells st.s 0
      have s1 := cell_cells st.s 1
      simp at s0 s1
      have A1 := st.add (h := Kmv.hv few x) (by omega) (by omega) (by omega) HS.out
      have h63 : l.length < 9223372036854775807 := by omega
      clear hcell2 hlen st HS
      cases few
      · have e : Kmv.hv false x = x := rfl
        rw [e] at A1
        go_wp2_with (go_at_call 43; refine A1.mono ?_; rintro e w' ⟨A', c', rfl, hb1, HS⟩; have s0 := cell_cells hb1 0; have s1 := cell_cells hb1 1; have g0 := frozen_cells hb1 0; have g1 := frozen_cells hb1 1; simp at s0 s1; clear hb1)
        go_roundw
        case rel => exact ⟨i + 1, _, by simp, by omega, by rw [← HE.out]; exact HS.out⟩
        case measure => simp only [sint_int]; omega
      · have e : Kmv.hv true x = x % 30 := rfl
        rw [e] at A1
        go_wp2_with (go_at_call 43; refine A1.mono ?_; rintro e w' ⟨A', c', rfl, hb1, HS⟩; have s0 := cell_cells hb1 0; have s1 := cell_cells hb1 1; have g0 := frozen_cells hb1 0; have g1 := frozen_cells hb1 1; simp at s0 s1; clear hb1)
        go_roundw
        case rel => exact ⟨i + 1, _, by simp, by omega, by rw [← HE.out]; exact HS.out⟩
        case measure => simp only [sint_int]; omega
    · obtain rfl : i = l.length := by omega
      rw [List.take_length] at st
      generalize Kmv.all K.toNat (l.map (Kmv.hv few)) = zs at *
      obtain ⟨A0, c0, rfl, _⟩ := st.own.rd.slice
      have s0 := cell_cells st.s 0
      have s1 := cell_cells st.s 1
      have o0 := cell_cells st.o 0
      have o1 := cell_cells st.o 1
      have g0 := frozen_cells st.o 0
      have g1 := frozen_cells st.o 1
      simp at s0 s1 o0 o1
      have D : Hid (Kmv.Gives w K zs (.returned (.agg #[.int .i64 K, .slice A0 zs.length c0])) ((wr.setCell ⟨w.heap.size, 0, none⟩ (.int .i64 K)).setCell ⟨w.heap.size, 1, none⟩ (.slice A0 zs.length c0))) :=
        Lib.hid ⟨_, rfl, st.own.keep (S := [w.heap.size]) (((Tr.refl _ _).setCell (by simp) _).setCell (by simp) _) (fun x hx => by have := st.far x hx; simp; omega),
          (st.tr.setCell (.inr (by simp)) _).setCell (.inr (by simp)) _, fun x hx => by have := st.far x hx; omega⟩
      clear st hlen
      go_wp2
      refine bodyPost_ret (v := .agg #[.int .i64 K, .slice A0 zs.length c0]) (by simp [results, Try.results25, go_sem, o0, o1]) rfl ?_
      exact D.out

end Go.Proofs.Ytncnkfjddolabaa
