/- What an argument reads as stays, where no block that lay has changed: whatever its type. Then the frame of a law that leaves its arguments alone has no shape left in it. No program. -/
import Derived.WalkKit
import Derived.ProofKit
import Derived.OpenShut
import Derived.ChangeSame
import Derived.Test.YtncnkfjddolabaaMem
set_option linter.unusedVariables false
set_option linter.unusedSimpArgs false
namespace Go.Proofs.Ytncnkfjddolabaa
open Go Go.RowKit

section
variable {α β : Type}
theorem mapM_keep {f g : α → Option β} : ∀ {xs : List α} {ys : List β}, xs.mapM f = some ys → (∀ x y, x ∈ xs → y ∈ ys → f x = some y → g x = some y) → xs.mapM g = some ys
  | [], ys, h, _ => by simpa using h
  | x :: xs, ys, h, k => by
    rw [List.mapM_cons] at h ⊢
    cases hx : f x with
    | none => rw [hx] at h; cases h
    | some y =>
      rw [hx] at h
      cases hr : xs.mapM f with
      | none => rw [hr] at h; cases h
      | some zs =>
        rw [hr] at h
        simp only [Option.bind_eq_bind, Option.bind_some, Option.pure_def, Option.some.injEq] at h
        subst h
        rw [k x y (by simp) (by simp) hx, mapM_keep hr (fun a b ha hb hab => k a b (by simp [ha]) (by simp [hb]) hab)]
        rfl
theorem mapM_len {f : α → Option β} : ∀ {xs : List α} {ys : List β}, xs.mapM f = some ys → ys.length = xs.length
  | [], ys, h => by simp at h; subst h; rfl
  | x :: xs, ys, h => by
    rw [List.mapM_cons] at h
    cases hx : f x with
    | none => rw [hx] at h; cases h
    | some y =>
      rw [hx] at h
      cases hr : xs.mapM f with
      | none => rw [hr] at h; cases h
      | some zs =>
        rw [hr] at h
        simp only [Option.bind_eq_bind, Option.bind_some, Option.pure_def, Option.some.injEq] at h
        subst h
        simp [mapM_len hr]
end

section
variable {H : Type} {enc : TypeId × Value → H} {P : Program} {w w' : World}
theorem cell_keep (hk : ∀ k, k < w.heap.size → w'.heap[k]? = w.heap[k]?) {a : Addr} {v : Value} (h : w.cell? a = some v) : w'.cell? a = some v := by
  have hb : a.block < w.heap.size := by
    unfold World.cell? at h
    cases e : w.heap[a.block]? with
    | none => simp [e] at h
    | some x => exact lt_of_heap e
  rw [← h]
  exact World.cell?_of_block (w := w) (hk _ hb)
theorem cells_keep (hk : ∀ k, k < w.heap.size → w'.heap[k]? = w.heap[k]?) {base : Nat} {a : Addr} {n : Nat} {cs : List Value} (h : w.cells? base a n = some cs) : w'.cells? base a n = some cs := by
  unfold World.cells? at h ⊢
  split at h
  · rename_i hb
    rw [if_pos hb]
    exact mapM_keep h fun x y _ _ hxy => cell_keep hk hxy
  · cases h

/-- A row of types that holds each one's parts; a slice's element takes room. -/
def roomyAt (P : Program) (TS : List TypeId) (t : TypeId) : Bool :=
  match P.underlying t with
  | some (.pointer e) => TS.contains e
  | some (.slice e) => TS.contains e && decide (0 < P.cellsOf e)
  | some (.struct fs) => fs.toList.all fun f => TS.contains f.type
  | some (.array _ e) => TS.contains e
  | some (.map _ e) => TS.contains e
  | _ => true
def Roomy (P : Program) (TS : List TypeId) : Prop := (TS.all (roomyAt P TS)) = true
theorem Roomy.at {P : Program} {TS : List TypeId} (h : Roomy P TS) {t : TypeId} (ht : t ∈ TS) : roomyAt P TS t = true := List.all_eq_true.1 h t ht

set_option maxHeartbeats 2000000 in
theorem trod_keep (hk : ∀ k, k < w.heap.size → w'.heap[k]? = w.heap[k]?) {TS : List TypeId} (hR : Roomy P TS) {sp : Nat → Bool} :
    ∀ (fuel : Nat) (t : TypeId) (cs : List Value) (x : DataW H × List MemPlace), t ∈ TS → DataW.trod enc P w 0 (fun _ => true) true fuel t cs = some x → (∀ p ∈ x.2, sp p.block = true) → DataW.trod enc P w' 0 sp true fuel t cs = some x
  | 0, t, cs, x, _, h, _ => by rw [DataW.trod] at h; cases h
  | fuel + 1, t, cs, x, htm, h, hsp => by
    have ih := trod_keep hk hR (sp := sp) fuel
    have hat := hR.at htm
    unfold roomyAt at hat
    unfold DataW.trod at h ⊢
    split at h
    all_goals (try exact h)
    case h_6 _ _ e a hu =>
      rw [hu] at hat
      have hte : e ∈ TS := by simpa using hat
      cases hc : w.cells? 0 a (P.cellsOf e) with
      | none => rw [hc] at h; cases h
      | some ds =>
        rw [hc] at h
        simp only [Option.bind_some] at h
        rw [cells_keep hk hc]
        simp only [Option.bind_some]
        cases ht : DataW.trod enc P w 0 (fun _ => true) true fuel e ds with
        | none => rw [ht] at h; cases h
        | some y =>
          rw [ht] at h
          simp only [Option.map_some, Option.some.injEq] at h
          subst h
          rw [ih e ds y hte ht (fun p hp => hsp p (by simp [hp]))]
          rfl
    case h_8 e a len cap hu =>
      rw [hu] at hat
      simp only [Bool.and_eq_true, decide_eq_true_eq] at hat
      have hte : e ∈ TS := by simpa using hat.1
      simp only at h ⊢
      split at h
      · rename_i hb
        rw [if_pos hb]
        simp only [if_true] at h
        have EL : ∀ (i : Nat) (y : DataW H × List MemPlace), (∀ p ∈ y.2, sp p.block = true) → (w.cells? 0 (a.add (i * P.cellsOf e)) (P.cellsOf e)).bind (DataW.trod enc P w 0 (fun _ => true) true fuel e) = some y →
            (w'.cells? 0 (a.add (i * P.cellsOf e)) (P.cellsOf e)).bind (DataW.trod enc P w' 0 sp true fuel e) = some y := fun i y hy h => by
          cases hc : w.cells? 0 (a.add (i * P.cellsOf e)) (P.cellsOf e) with
          | none => rw [hc] at h; cases h
          | some ds =>
            rw [hc] at h
            rw [cells_keep hk hc]
            exact ih e ds y hte h hy
        cases h1 : (List.range len).mapM (fun i => (w.cells? 0 (a.add (i * P.cellsOf e)) (P.cellsOf e)).bind (DataW.trod enc P w 0 (fun _ => true) true fuel e)) with
        | none => rw [h1] at h; cases h
        | some elems =>
          rw [h1] at h
          simp only [Option.bind_some] at h
          cases h2 : (List.range (cap - len)).mapM (fun j => (w.cells? 0 (a.add ((len + j) * P.cellsOf e)) (P.cellsOf e)).bind (DataW.trod enc P w 0 (fun _ => true) true fuel e)) with
          | none => rw [h2] at h; cases h
          | some rest =>
            rw [h2] at h
            simp only [Option.map_some, Option.some.injEq] at h
            subst h
            have hl2 := mapM_len h2
            simp only [List.length_range] at hl2
            rw [mapM_keep h1 (fun i y _ hy hxy => EL i y (fun p hp => hsp p (by simp only [List.mem_append, List.mem_flatMap]; exact .inr ⟨y, .inl hy, hp⟩)) hxy)]
            simp only [Option.bind_some]
            by_cases hs : sp a.block = true
            · rw [if_pos hs, mapM_keep h2 (fun i y _ hy hxy => EL (len + i) y (fun p hp => hsp p (by simp only [List.mem_append, List.mem_flatMap]; exact .inr ⟨y, .inr hy, hp⟩)) hxy)]
              rfl
            · have hr : rest = [] := by
                cases rest with
                | nil => rfl
                | cons z zs =>
                  exfalso
                  refine hs (hsp (.cell a.block a.off) ?_)
                  simp only [List.mem_append]
                  refine .inl ?_
                  unfold MemPlace.row
                  simp only [List.mem_map, List.mem_range]
                  refine ⟨0, ?_, by simp⟩
                  have := hat.2
                  exact Nat.mul_pos (by simp only [List.length_cons]; omega) this
              subst hr
              rw [if_neg hs]
              rfl
      · cases h
    case h_9 cs _ _ fs hu =>
      rw [hu] at hat
      have hte : ∀ f ∈ fs.toList, f.type ∈ TS := fun f hf => by have := List.all_eq_true.1 hat f hf; simpa using this
      split at h
      · rename_i hl
        rw [if_pos hl]
        cases h1 : fs.toList.mapM (fun f => DataW.trod enc P w 0 (fun _ => true) true fuel f.type ((cs.drop f.offset).take (P.cellsOf f.type))) with
        | none => rw [h1] at h; cases h
        | some xs =>
          rw [h1] at h
          simp only [Option.map_some, Option.some.injEq] at h
          subst h
          rw [mapM_keep h1 (fun i y hi hy hxy => ih _ _ y (hte i hi) hxy (fun p hp => hsp p (by simp only [List.mem_flatMap]; exact ⟨y, hy, hp⟩)))]
          rfl
      · cases h
    case h_10 cs _ _ n e hu =>
      rw [hu] at hat
      have hte : e ∈ TS := by simpa using hat
      split at h
      · rename_i hl
        rw [if_pos hl]
        cases h1 : (List.range n).mapM (fun i => DataW.trod enc P w 0 (fun _ => true) true fuel e ((cs.drop (i * P.cellsOf e)).take (P.cellsOf e))) with
        | none => rw [h1] at h; cases h
        | some xs =>
          rw [h1] at h
          simp only [Option.map_some, Option.some.injEq] at h
          subst h
          rw [mapM_keep h1 (fun i y _ hy hxy => ih _ _ y hte hxy (fun p hp => hsp p (by simp only [List.mem_flatMap]; exact ⟨y, hy, hp⟩)))]
          rfl
      · cases h
    case h_14 k e b hu =>
      rw [hu] at hat
      have hte : e ∈ TS := by simpa using hat
      cases hb : w.heap[b]? with
      | none => rw [hb] at h; cases h
      | some o =>
        rw [hb] at h
        rw [hk b (lt_of_heap hb), hb]
        cases o with
        | map es clock =>
          simp only at h ⊢
          split at h
          · rename_i hc
            rw [if_pos hc]
            cases h1 : es.toList.mapM (fun x => (keyOf P k x.key).bind fun key => if Value.formed P e x.val = true then Option.map (fun y => ((key, y.fst), y.snd)) (DataW.trod enc P w 0 (fun _ => true) true fuel e x.val.cells.toList) else none) with
            | none => rw [h1] at h; cases h
            | some ys =>
              rw [h1] at h
              simp only [Option.bind_some] at h
              split at h
              · rename_i hr
                simp only [Option.some.injEq] at h
                subst h
                rw [mapM_keep h1 (fun i y _ hy hxy => by
                  cases hkey : keyOf P k i.key with
                  | none => rw [hkey] at hxy; cases hxy
                  | some key =>
                    rw [hkey] at hxy
                    simp only [Option.bind_some] at hxy ⊢
                    split at hxy
                    · rename_i hf
                      rw [if_pos hf]
                      cases ht : DataW.trod enc P w 0 (fun _ => true) true fuel e i.val.cells.toList with
                      | none => rw [ht] at hxy; cases hxy
                      | some z =>
                        rw [ht] at hxy
                        simp only [Option.map_some, Option.some.injEq] at hxy
                        subst hxy
                        rw [ih _ _ z hte ht (fun p hp => hsp p (by simp only [List.mem_cons, List.mem_flatMap]; exact .inr ⟨_, hy, hp⟩))]
                        rfl
                    · cases hxy)]
                simp only [Option.bind_some]
                rw [if_pos hr]
              · cases h
          · cases h
        | _ => cases h

theorem trodAll_keep (hk : ∀ k, k < w.heap.size → w'.heap[k]? = w.heap[k]?) {TS : List TypeId} (hR : Roomy P TS) {sp : Nat → Bool} :
    ∀ (ts : List TypeId) (vs : List Value) (ds : List (DataW H)) (ps : List MemPlace), (∀ t ∈ ts, t ∈ TS) → DataW.TrodAll enc P w 0 (fun _ => true) true ts vs ds ps → (∀ p ∈ ps, sp p.block = true) → DataW.TrodAll enc P w' 0 sp true ts vs ds ps
  | [], [], [], ps, _, h, _ => h
  | t :: ts, v :: vs, d :: ds, ps, hts, h, hsp => by
    obtain ⟨p, q, ⟨fuel, hf⟩, hr, rfl⟩ := h
    exact ⟨p, q, ⟨fuel, trod_keep hk hR _ _ _ _ (hts t (by simp)) hf (fun x hx => hsp x (by simp only [List.mem_append]; exact .inl hx))⟩, trodAll_keep hk hR ts vs ds q (fun t ht => hts t (by simp [ht])) hr (fun x hx => hsp x (by simp only [List.mem_append]; exact .inr hx)), rfl⟩
  | [], [], _ :: _, _, _, h, _ => h.elim
  | [], _ :: _, [], _, _, h, _ => h.elim
  | [], _ :: _, _ :: _, _, _, h, _ => h.elim
  | _ :: _, [], [], _, _, h, _ => h.elim
  | _ :: _, [], _ :: _, _, _, h, _ => h.elim
  | _ :: _, _ :: _, [], _, _, h, _ => h.elim

open Go.ChangeShapes Go.WideShapes Go.ChangeAt in
/-- The post of a law that answers true, where nothing that lay has changed: whatever its parameters. -/
theorem post_law {f : Func} {s : ChangeSpec} {apart fresh handsOn again : Bool} {W W' : World} {args : Array Value} {ds : List (DataW H)} {before : List MemPlace} {tb : TypeId}
    {TS : List TypeId} (hR : Roomy P TS) (hTS : ∀ t ∈ f.params.toList, t ∈ TS) (hvars : s.vars = []) (hW : DataW.Whole enc P f.params.toList s.vars apart W args.toList ds [] before) (ht : Tr [] W W')
    (hrt : f.resultTypes = #[tb]) (hb : P.underlying tb = some .bool)
    (hfn : s.fn H (ds ++ []) = { results := [.lit (.bool true)], args := ds }) :
    s.post enc P f apart fresh handsOn again W args (.bool true) W' := by
  have hlt := hW.lt
  have hold : ∀ p ∈ before, (fun b => decide (b < W.heap.size)) p.block = true := fun p hp => by simpa using hlt p hp
  have hkp : ∀ k, k < W.heap.size → W'.heap[k]? = W.heap[k]? := fun k hk => ht.block k hk (by simp)
  have hW0 := hW
  obtain ⟨pa, pv, hA, hV, hps, hz, hn⟩ := hW
  have hV0 := hV
  rw [hvars] at hV
  have hpv : pv = [] := hV
  subst hpv
  simp only [List.append_nil] at hps
  subst hps
  have hargs : ∀ sp : Nat → Bool, (∀ p ∈ before, sp p.block = true) → DataW.TrodAll enc P W' 0 sp true f.params.toList args.toList (s.fn H (ds ++ [])).args before := fun sp hsp => by
    rw [hfn]; exact trodAll_keep hkp hR _ _ _ _ hTS hA hsp
  have hvs : ∀ sp : Nat → Bool, DataW.TrodVars enc P W' sp s.vars (s.fn H (ds ++ [])).vars [] := fun sp => by
    rw [hfn, hvars]; rfl
  have hres : ∀ (b : Nat) (sp : Nat → Bool) (hd : Bool), DataW.TrodAll enc P W' b sp hd f.resultTypes.toList ((Value.bool true).resultList f.resultTypes.size) (s.fn H (ds ++ [])).results [] := fun b sp hd => by
    rw [hfn, hrt]
    exact trodAll_cons_mk (shut_bool hb true) trodAll_mk0
  have hkept : W.keptBut W' (fun p => p ∈ before) := by
    refine ⟨ht.os, ht.output, fun i hi => ?_⟩
    rw [ht.block i hi (by simp)]
    split <;> simp_all
  refine ⟨ds, [], before, [], before, [], hW0, hres _ _ _, hargs _ hold, hvs _, ⟨ht.os, ht.output, fun i hi => ?_⟩, fun _ => ?_⟩
  · rw [ht.block i hi (by simp)]
    split <;> simp_all
  · refine ⟨?_, _, _, ([] ++ before) ++ [], ⟨[] ++ before, [], trodAll_append (hargs _ (fun _ _ => rfl)) (hres _ _ _), hvs _, rfl, fun b off hp => ?_, fun ha => ?_⟩, fun p hp _ => ?_⟩
    · exact ok_one hrt rfl (okWide_bool_mk hb true)
    · have hb : MemPlace.cell b off ∈ before := by simpa using hp
      exact (ht.frozen (p := ⟨b, off, none⟩) (hlt _ hb) (by simp)).trans (hz b off (by simpa using hb))
    · simpa using hn ha
    · simpa using hp
end
end Go.Proofs.Ytncnkfjddolabaa
