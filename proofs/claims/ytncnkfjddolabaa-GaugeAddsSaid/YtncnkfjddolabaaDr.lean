/- A region whose order is drawn, walked in the order of its text: where each two operations that no edge orders are so that one of them hangs on no memory, or both only read, or a read stands ahead of a new block. -/
import Derived.Orders
import Derived.Tactics
import Derived.Laws.Slices
import Derived.Laws.Alloc2
import Derived.RowKit3
set_option linter.unusedSimpArgs false
set_option linter.unusedVariables false
namespace Go.Proofs.Ytncnkfjddolabaa.Dr
open Go

/-! ### 1. What hangs on no memory -/
/-- The outcome is one value, or no value, whatever the world. -/
def Free {α : Type} (P : Program) (s : Sem α) : Prop := (∃ v, ∀ w, s.run P w = .ok v w) ∨ ∀ w, ∃ h w', s.run P w = .halt h w'

section
variable {P : Program} {α β : Type}
theorem Free.pure (a : α) : Free P (Pure.pure a : Sem α) := .inl ⟨a, fun w => by simp⟩
theorem Free.halt (h : Halt) : Free P (Sem.halt h : Sem α) := .inr fun w => ⟨h, w, rfl⟩
theorem Free.stuck (m : String) : Free P (Go.stuck m : Sem α) := .halt _
theorem Free.unsupported (u : Unsupported) : Free P (Go.unsupported u : Sem α) := .halt _
theorem Free.bind {s : Sem α} {f : α → Sem β} (hs : Free P s) (hf : ∀ a, Free P (f a)) : Free P (s >>= f) := by
  rcases hs with ⟨v, hv⟩ | hh
  · rcases hf v with ⟨u, hu⟩ | hh
    · exact .inl ⟨u, fun w => by simp [hv w, hu w]⟩
    · exact .inr fun w => by obtain ⟨h, w', e⟩ := hh w; exact ⟨h, w', by simp [hv w, e]⟩
  · exact .inr fun w => by obtain ⟨h, w', e⟩ := hh w; exact ⟨h, w', by simp [e]⟩
theorem Free.program : Free P program := .inl ⟨P, fun w => rfl⟩
theorem Free.typeInfo (t : TypeId) : Free P (typeInfo t) := by
  unfold Go.typeInfo
  refine .bind .program fun p => ?_
  split
  · exact .pure _
  · exact .stuck _
theorem Free.underlying (t : TypeId) : Free P (underlying t) := by
  unfold Go.underlying
  refine .bind .program fun p => ?_
  split
  · exact .pure _
  · exact .stuck _
theorem Free.sizeOf (t : TypeId) : Free P (sizeOf t) := .bind (.typeInfo t) fun _ => .pure _
theorem Free.zeroValue (t : TypeId) : Free P (zeroValue t) := by
  unfold Go.zeroValue
  refine .bind (.typeInfo t) fun i => ?_
  split
  · exact .pure _
  · exact .unsupported _
/-- No value, ever. -/
structure Never (P : Program) (s : Sem α) : Prop where
  out : ∀ w, ∃ h w', s.run P w = .halt h w'
theorem Never.free {s : Sem α} (h : Never P s) : Free P s := .inr h.out
theorem total (s : Sem α) (w : World) : (∃ v w', s.run P w = .ok v w') ∨ ∃ h w', s.run P w = .halt h w' := by
  cases h : s.run P w with
  | ok v w' => exact .inl ⟨v, w', rfl⟩
  | halt x w' => exact .inr ⟨x, w', rfl⟩
theorem Never.bind {s : Sem α} {f : α → Sem β} (hf : ∀ a, Never P (f a)) : Never P (s >>= f) := ⟨fun w => by
  rcases total (P := P) s w with ⟨v, w', e⟩ | ⟨h, w', e⟩
  · obtain ⟨h, w2, e2⟩ := (hf v).out w'
    exact ⟨h, w2, by simp [e, e2]⟩
  · exact ⟨h, w', by simp [e]⟩⟩
theorem Never.goPanic (v : Value) : Never P (goPanic v : Sem α) := ⟨fun w => ⟨_, _, rfl⟩⟩
theorem Never.runtimePanic (e : RuntimeError) : Never P (runtimePanic e : Sem α) := by
  unfold Go.runtimePanic
  refine .bind fun p => ?_
  dsimp only
  split
  all_goals repeat (first | exact .goPanic _ | refine .bind fun _ => ?_)
theorem Never.boundsPanic (k : IntKind) (x y : Int) (c : BoundsCode) : Never P (boundsPanic k x y c : Sem α) := by
  unfold Go.boundsPanic
  dsimp only
  split
  all_goals exact .bind fun _ => .runtimePanic _
theorem Free.asIntOf (v : Value) : Free P (asIntOf v) := by unfold Go.asIntOf; split <;> first | exact .pure _ | exact .stuck _ | exact .unsupported _
theorem Free.asBool (v : Value) : Free P (asBool v) := by unfold Go.asBool; split <;> first | exact .pure _ | exact .stuck _ | exact .unsupported _
theorem Free.sureAddr (v : Value) : Free P (Instr.sureAddr v) := by unfold Instr.sureAddr; split <;> first | exact .pure _ | exact .stuck _ | exact .unsupported _
theorem Free.asAddr (v : Value) : Free P (asAddr v) := by unfold Go.asAddr; repeat' (first | exact Free.pure _ | exact Free.stuck _ | exact Free.unsupported _ | exact Free.typeInfo _ | exact Free.underlying _ | exact Free.sizeOf _ | exact Free.zeroValue _ | exact Never.free (Never.runtimePanic _) | exact Never.free (Never.boundsPanic _ _ _ _) | exact Free.asIntOf _ | exact Free.asBool _ | exact Free.sureAddr _ | exact Free.program | dsimp only | split | refine Free.bind ?_ (fun _ => ?_))
theorem Free.sliceBound (x : Value) (y : Nat) (c : BoundsCode) : Free P (Instr.sliceBound x y c) := by unfold Instr.sliceBound; repeat' (first | exact Free.pure _ | exact Free.stuck _ | exact Free.unsupported _ | exact Free.typeInfo _ | exact Free.underlying _ | exact Free.sizeOf _ | exact Free.zeroValue _ | exact Never.free (Never.runtimePanic _) | exact Never.free (Never.boundsPanic _ _ _ _) | exact Free.asIntOf _ | exact Free.asBool _ | exact Free.sureAddr _ | exact Free.program | dsimp only | split | refine Free.bind ?_ (fun _ => ?_))
theorem Free.sliceBounds (b : Bool) (len cap : Nat) (lo hi mx : Option Value) : Free P (Instr.sliceBounds b len cap lo hi mx) := by
  unfold Instr.sliceBounds
  repeat' (first | exact .sliceBound _ _ _ | exact .pure _ | exact .stuck _ | dsimp only | split | refine Free.bind ?_ (fun _ => ?_))
theorem Free.slice (t : TypeId) (x : Value) (lo hi mx : Option Value) : Free P (Instr.slice t x lo hi mx) := by
  unfold Instr.slice
  repeat' (first | exact .sliceBounds _ _ _ _ _ _ | exact .asAddr _ | exact .sizeOf _ | exact .underlying _ | exact .pure _ | exact .stuck _ | dsimp only | split | refine Free.bind ?_ (fun _ => ?_))
theorem Free.sliceAt (t : TypeId) (x : Value) (lo hi mx : Option Value) : Free P (Instr.sliceAt t x lo hi mx) := by
  unfold Instr.sliceAt
  repeat' (first | exact .slice _ _ _ _ _ | exact .sliceBounds _ _ _ _ _ _ | exact .sureAddr _ | exact .sizeOf _ | exact .underlying _ | exact .pure _ | exact .stuck _ | dsimp only | split | refine Free.bind ?_ (fun _ => ?_))
theorem Free.indexAt (t : TypeId) (x ix : Value) : Free P (Instr.indexAt t x ix) := by unfold Instr.indexAt; repeat' (first | exact Free.pure _ | exact Free.stuck _ | exact Free.unsupported _ | exact Free.typeInfo _ | exact Free.underlying _ | exact Free.sizeOf _ | exact Free.zeroValue _ | exact Never.free (Never.runtimePanic _) | exact Never.free (Never.boundsPanic _ _ _ _) | exact Free.asIntOf _ | exact Free.asBool _ | exact Free.sureAddr _ | exact Free.program | dsimp only | split | refine Free.bind ?_ (fun _ => ?_))
theorem Free.extract (t : Value) (i : Nat) : Free P (Instr.extract t i) := by unfold Instr.extract; repeat' (first | exact Free.pure _ | exact Free.stuck _ | exact Free.unsupported _ | exact Free.typeInfo _ | exact Free.underlying _ | exact Free.sizeOf _ | exact Free.zeroValue _ | exact Never.free (Never.runtimePanic _) | exact Never.free (Never.boundsPanic _ _ _ _) | exact Free.asIntOf _ | exact Free.asBool _ | exact Free.sureAddr _ | exact Free.program | dsimp only | split | refine Free.bind ?_ (fun _ => ?_))
theorem Free.part (t : TypeId) (cs : Array Value) (off : Nat) : Free P (part t cs off) := by unfold Go.part isAgg; repeat' (first | exact Free.pure _ | exact Free.stuck _ | exact Free.unsupported _ | exact Free.typeInfo _ | exact Free.underlying _ | exact Free.sizeOf _ | exact Free.zeroValue _ | exact Never.free (Never.runtimePanic _) | exact Never.free (Never.boundsPanic _ _ _ _) | exact Free.asIntOf _ | exact Free.asBool _ | exact Free.sureAddr _ | exact Free.program | dsimp only | split | refine Free.bind ?_ (fun _ => ?_))
theorem Free.field (t : TypeId) (x : Value) (f : Nat) : Free P (Instr.field t x f) := by
  unfold Instr.field asAgg
  repeat' (first | exact .part _ _ _ | exact .underlying _ | exact .pure _ | exact .stuck _ | dsimp only | split | refine Free.bind ?_ (fun _ => ?_))
/-- The field is of some cells: its address is reckoned without a look at memory. -/
def fieldSized (P : Program) (s : TypeId) (f : Nat) : Bool :=
  match P.underlying s with
  | some (.struct fields) => match fields[f]? with
    | some x => match P.info? x.type with
      | some i => decide (i.size ≠ 0)
      | none => false
    | none => false
  | _ => false
theorem Free.fieldAt (s : TypeId) (x : Value) (f : Nat) (h : fieldSized P s f = true) : Free P (Instr.fieldAt s x f) := by
  unfold fieldSized at h
  split at h
  · rename_i fields hu
    split at h
    · rename_i fl hf
      split at h
      · rename_i i hi
        have hz : i.size ≠ 0 := by simpa using h
        have e : ∀ w, (Instr.fieldAt s x f).run P w = ((Instr.sureAddr x).run P w).andThen fun a w' => .ok (.pointer (some (a.add fl.offset))) w' := by
          intro w
          simp [Instr.fieldAt, Go.underlying, Go.program, hu, hf, fieldPlace, Go.sizeOf, Go.typeInfo, hi, hz, Sem.run]
        rcases Free.sureAddr (P := P) x with ⟨v, hv⟩ | hh
        · exact .inl ⟨_, fun w => by rw [e, hv]; rfl⟩
        · exact .inr fun w => by obtain ⟨h, w', e2⟩ := hh w; exact ⟨h, w', by rw [e, e2]; rfl⟩
      · cases h
    · cases h
  · cases h
theorem Free.binOp (op : BinOp) (t : TypeId) (k k' : IntKind) (a b : Int) : Free P (binOp op t (.int k a) (.int k' b)) := by
  have hs : Free P (Op.shift op k a k' b) := by unfold Op.shift; repeat' (first | exact Free.pure _ | exact Free.stuck _ | exact Free.unsupported _ | exact Free.typeInfo _ | exact Free.underlying _ | exact Free.sizeOf _ | exact Free.zeroValue _ | exact Never.free (Never.runtimePanic _) | exact Never.free (Never.boundsPanic _ _ _ _) | exact Free.asIntOf _ | exact Free.asBool _ | exact Free.sureAddr _ | exact Free.program | dsimp only | split | refine Free.bind ?_ (fun _ => ?_))
  have ha : Free P (Op.intArith op k a b) := by unfold Op.intArith; repeat' (first | exact Free.pure _ | exact Free.stuck _ | exact Free.unsupported _ | exact Free.typeInfo _ | exact Free.underlying _ | exact Free.sizeOf _ | exact Free.zeroValue _ | exact Never.free (Never.runtimePanic _) | exact Never.free (Never.boundsPanic _ _ _ _) | exact Free.asIntOf _ | exact Free.asBool _ | exact Free.sureAddr _ | exact Free.program | dsimp only | split | refine Free.bind ?_ (fun _ => ?_))
  have hd : Free P (Op.intDiv op k a b) := by unfold Op.intDiv; repeat' (first | exact Free.pure _ | exact Free.stuck _ | exact Free.unsupported _ | exact Free.typeInfo _ | exact Free.underlying _ | exact Free.sizeOf _ | exact Free.zeroValue _ | exact Never.free (Never.runtimePanic _) | exact Never.free (Never.boundsPanic _ _ _ _) | exact Free.asIntOf _ | exact Free.asBool _ | exact Free.sureAddr _ | exact Free.program | dsimp only | split | refine Free.bind ?_ (fun _ => ?_))
  have hb : Free P (Op.intBits op k a b) := by unfold Op.intBits; repeat' (first | exact Free.pure _ | exact Free.stuck _ | exact Free.unsupported _ | exact Free.typeInfo _ | exact Free.underlying _ | exact Free.sizeOf _ | exact Free.zeroValue _ | exact Never.free (Never.runtimePanic _) | exact Never.free (Never.boundsPanic _ _ _ _) | exact Free.asIntOf _ | exact Free.asBool _ | exact Free.sureAddr _ | exact Free.program | dsimp only | split | refine Free.bind ?_ (fun _ => ?_))
  have hc : Free P (Op.intCmp op a b) := by unfold Op.intCmp; repeat' (first | exact Free.pure _ | exact Free.stuck _ | exact Free.unsupported _ | exact Free.typeInfo _ | exact Free.underlying _ | exact Free.sizeOf _ | exact Free.zeroValue _ | exact Never.free (Never.runtimePanic _) | exact Never.free (Never.boundsPanic _ _ _ _) | exact Free.asIntOf _ | exact Free.asBool _ | exact Free.sureAddr _ | exact Free.program | dsimp only | split | refine Free.bind ?_ (fun _ => ?_))
  cases op <;> unfold Go.binOp <;> dsimp only <;> first | exact hs | (split <;> first | exact .stuck _ | exact ha | exact hd | exact hb | exact hc)
theorem Free.guard (op : BinOp) (t : TypeId) (x y : Operand) (k k' : IntKind) (a b : Int) : Free P (eqGuard op t x y (.int k a) (.int k' b)) := by
  unfold eqGuard
  cases op <;> exact .pure _
theorem Free.convert (s d : TypeId) (k : IntKind) (n : Int) (h : (P.underlying d).any (fun | .int _ => true | _ => false) = true) : Free P (convert s d (.int k n)) := by
  obtain ⟨u, hu, hk⟩ := (Option.any_eq_true _ _).1 h
  cases u <;> simp at hk
  rename_i k'
  cases hs : P.underlying s with
  | none => exact .inr fun w => ⟨_, w, by simp [Go.convert, Go.underlying, Go.program, hs, Sem.run, Go.stuck]; rfl⟩
  | some us => exact .inl ⟨.int k' (k'.wrap n), fun w => by cases us <;> simp [Go.convert, Go.underlying, Go.program, hs, hu, Sem.run, Conv.intToInt]⟩
end
end Go.Proofs.Ytncnkfjddolabaa.Dr
