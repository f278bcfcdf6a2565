/- A parameter that is a slice of items, opened: what it holds. -/
import Derived.Test.YtncnkfjddolabaaRows
import Derived.WalkKit
import Derived.ProofKit
import Derived.OpenShut
import Derived.ChangeSlices
import Derived.ChangeSame
import Derived.ChangeArms
import Derived.Deep.Slices
import Derived.Deep.Fields
import Derived.Lib.Hide
import Derived.Test.YtncnkfjddolabaaGb
import Derived.Test.YtncnkfjddolabaaFr
set_option linter.unusedVariables false
set_option linter.unusedSimpArgs false
namespace Go.Proofs.Ytncnkfjddolabaa
open Go Go.ChangeShapes Go.WideShapes Go.ChangeAt Go.RowKit Go.Deep

section
variable {H : Type} {enc : TypeId × Value → H} {P : Program} {w : World} {base : Nat} {spare : Nat → Bool} {held : Bool}
theorem open_slice_fields {t e : TypeId} {fs : Array Field} {fuel : Nat} {cs : List Value} {x : DataW H × List MemPlace} (ht : P.underlying t = some (.slice e)) (he : P.underlying e = some (.struct fs))
    (hone : oneCellFields P fs = true) (hC : P.cellsOf e = fs.size) (h : DataW.trod enc P w base spare held fuel t cs = some x) :
    (cs = [.slice none 0 0] ∧ x = (.nil, [])) ∨
    ∃ (a : Addr) (len cap m : Nat) (D : Nat → DataW H) (Pl : Nat → List MemPlace), cs = [.slice (some a) len cap] ∧ base ≤ a.block ∧ len ≤ cap ∧ cap ≤ maxLen ∧ m = (if spare a.block then cap else len) ∧
      x = (.slice ((List.range len).map D) ((List.range (m - len)).map fun j => D (len + j)), MemPlace.row a (m * fs.size) ++ (List.range m).flatMap Pl) ∧
      ∀ i, i < m → ∃ (ys : List (DataW H × List MemPlace)) (n : Nat), D i = .agg (ys.map (·.1)) ∧ Pl i = ys.flatMap (·.2) ∧ ys.length = fs.size ∧
        ∀ (j : Nat) (f : Field), fs[j]? = some f → ∃ (v : Value) (y : DataW H × List MemPlace), w.cell? (a.add (i * fs.size + j)) = some v ∧ ys[j]? = some y ∧ DataW.trod enc P w base spare held n f.type [v] = some y := by
  rcases open_slice ht h with h0 | ⟨a, len, cap, m, n, D, Pl, hcs, hb, hl, hm, hmm, hx, hi⟩
  · exact .inl h0
  · refine .inr ⟨a, len, cap, m, D, Pl, hcs, hb, hl, hm, hmm, by rw [hC] at hx; exact hx, fun i him => ?_⟩
    obtain ⟨cs', hc, ht'⟩ := hi i him
    rw [hC] at hc
    obtain ⟨ys, n', hn', hy, hlen, hyl, hf⟩ := DataW.trod_struct he ht'
    obtain ⟨_, hcl, hat⟩ := World.cells?_some hc
    simp only [Prod.mk.injEq] at hy
    refine ⟨ys, n', hy.1, hy.2, hyl, fun j f hj => ?_⟩
    obtain ⟨ho, hk⟩ := hone_of hone j f hj
    have hjl : j < fs.size := (Array.getElem?_eq_some_iff.1 hj).1
    have hcell := hat j hjl
    have hv : cs'[j]? = some (cs'[j]'(by omega)) := List.getElem?_eq_getElem (by omega)
    have h1 := hf j f hj
    rw [ho, hk] at h1
    have hone' : (cs'.drop j).take 1 = [cs'[j]'(by omega)] := by
      rw [List.drop_eq_getElem_cons (by omega)]
      rfl
    rw [hone'] at h1
    have hys : ys[j]? = some (ys[j]'(by omega)) := List.getElem?_eq_getElem (by omega)
    refine ⟨_, _, ?_, hys, h1.trans hys⟩
    rw [← Go.Deep.add_add, hcell, hv]
end

theorem cells41 : Try.prog.cellsOf 41 = 2 := by kernel_rfl
noncomputable def itemFields : Array Field := match Try.prog.underlying 41 with | some (.struct fs) => fs | _ => #[]
theorem item_under : Try.prog.underlying 41 = some (.struct itemFields) := by kernel_rfl
theorem item_size : itemFields.size = 2 := by kernel_rfl
theorem item_f0 : ∃ f, itemFields[0]? = some f ∧ Try.prog.underlying f.type = some (.int .u64) := ⟨(itemFields[0]?).get (by kernel_rfl), by kernel_rfl, by kernel_rfl⟩
theorem item_f1 : ∃ f, itemFields[1]? = some f ∧ Try.prog.underlying f.type = some (.int .u8) := ⟨(itemFields[1]?).get (by kernel_rfl), by kernel_rfl, by kernel_rfl⟩

/-- The whole number in a cell. -/
def ci (w : World) (a : Addr) : Int := match w.cell? a with | some (.int _ n) => n | _ => 0
def itemsAt (w : World) (a : Addr) (n : Nat) : List (Int × Int) := (List.range n).map fun i => (ci w (a.add (i * 2)), ci w (a.add (i * 2 + 1)))
theorem itemsAt_len (w : World) (a : Addr) (n : Nat) : (itemsAt w a n).length = n := by simp [itemsAt]

section
variable {H : Type} {enc : TypeId × Value → H} {W : World} {fuel : Nat} {cs : List Value} {x : DataW H × List MemPlace}
theorem open_items (h : DataW.trod enc Try.prog W 0 (fun _ => true) true fuel 32 cs = some x) :
    ∃ (v : Value) (l : List (Int × Int)), cs = [v] ∧ RdV W 2 v l.length (itv l) ∧ ItOk l := by
  rcases open_slice_fields (fs := itemFields) (by kernel_rfl) item_under (by kernel_rfl) (by rw [cells41, item_size]) h with ⟨rfl, _⟩ | ⟨a, len, cap, m, D, Pl, rfl, _, hl, hm, hmm, _, hf⟩
  · exact ⟨_, [], rfl, RdV.nil _ _, fun p hp => by simp at hp⟩
  · rw [item_size] at hf
    simp only [if_true] at hmm
    subst hmm
    obtain ⟨f0, g0, u0⟩ := item_f0
    obtain ⟨f1, g1, u1⟩ := item_f1
    have cell : ∀ i, i < m → (∃ n, W.cell? (a.add (i * 2)) = some (.int .u64 n) ∧ (Lit.int .u64 n).wf = true) ∧ (∃ n, W.cell? (a.add (i * 2 + 1)) = some (.int .u8 n) ∧ (Lit.int .u8 n).wf = true) := fun i hi => by
      obtain ⟨ys, n, _, _, _, hc⟩ := hf i hi
      obtain ⟨v, y, c0, _, t0⟩ := hc 0 f0 g0
      obtain ⟨v', y', c1, _, t1⟩ := hc 1 f1 g1
      obtain ⟨n0, e0, _, w0⟩ := DataW.trod_int u0 t0
      obtain ⟨n1, e1, _, w1⟩ := DataW.trod_int u1 t1
      simp only [List.cons.injEq, and_true] at e0 e1
      subst e0; subst e1
      exact ⟨⟨n0, by simpa using c0, w0⟩, ⟨n1, c1, w1⟩⟩
    refine ⟨_, itemsAt W a len, rfl, ?_, ?_⟩
    · rw [itemsAt_len]
      have gd : ∀ i, i < len → (itemsAt W a len).getD i (0, 0) = (ci W (a.add (i * 2)), ci W (a.add (i * 2 + 1))) := fun i hi => by
        simp [itemsAt, hi]
      have il : (itv (itemsAt W a len)).length = len * 2 := by rw [itv_len, itemsAt_len]
      refine ⟨il, ?_, .inr ⟨a, m, rfl, hl, hm, fun hp => ?_⟩⟩
      · intro u hu
        simp only [itv, List.mem_flatMap] at hu
        obtain ⟨p, _, hp⟩ := hu
        simp at hp
        rcases hp with rfl | rfl <;> rfl
      · obtain ⟨⟨n0, c0, _⟩, _⟩ := cell 0 (by omega)
        obtain ⟨b, off, spot⟩ := a
        have hs := World.cell?_spot c0
        have hspot : spot = none := by
          simp only [Addr.add] at hs
          split at hs <;> simp_all
        subst hspot
        have hb : b < W.heap.size := by
          simp only [Nat.zero_mul] at c0
          rw [add_plain] at c0
          unfold World.cell? at c0
          cases e : W.heap[b]? with
          | none => simp [e] at c0
          | some o => exact lt_of_heap e
        refine ⟨b, off, rfl, hb, fun j u hj => ?_⟩
        have hjl : j < len * 2 := by
          have := (List.getElem?_eq_some_iff.1 hj).1
          omega
        obtain ⟨q, hq⟩ : ∃ q, q = j / 2 := ⟨_, rfl⟩
        have hql : q < len := by omega
        obtain ⟨⟨n0, c0, _⟩, ⟨n1, c1, _⟩⟩ := cell q (by omega)
        rw [add_plain] at c0 c1
        obtain ⟨g1, g2⟩ := itv_get (itemsAt W ⟨b, off, none⟩ len) q (by rw [itemsAt_len]; exact hql)
        rw [gd q hql] at g1 g2
        simp only [ci, add_plain, c0, c1] at g1 g2
        rcases (show j = q * 2 ∨ j = q * 2 + 1 by omega) with e | e
        · rw [e] at hj ⊢; rw [g1] at hj; rw [← hj]; exact c0
        · rw [e] at hj ⊢; rw [g2] at hj; rw [← hj]; exact c1
    · intro p hp
      simp only [itemsAt, List.mem_map, List.mem_range] at hp
      obtain ⟨i, hi, rfl⟩ := hp
      obtain ⟨⟨n0, c0, w0⟩, ⟨n1, c1, w1⟩⟩ := cell i (by omega)
      have b0 := bounds_u64 w0
      have b1 := bounds_u8 w1
      simp only [ci, c0, c1]
      omega
end

end Go.Proofs.Ytncnkfjddolabaa
