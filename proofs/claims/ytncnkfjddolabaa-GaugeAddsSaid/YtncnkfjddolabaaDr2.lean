/- Operations of a region that draws: which hang on no memory, which only read, which only make a block. -/
import Derived.Test.YtncnkfjddolabaaDr
set_option linter.unusedSimpArgs false
set_option linter.unusedVariables false
namespace Go.Proofs.Ytncnkfjddolabaa.Dr
open Go
section
variable {P : Program} {α β : Type}

/-! ### 2. The kinds of operations -/
def isLoad (o : Oper) : Bool := match o.op with | .load .. => true | _ => false
def isNew (o : Oper) : Bool := match o.op with | .alloc _ | .box .. | .buildSlice .. => true | _ => false
def lenOf (P : Program) (c : Call) : Bool :=
  match c.callee, c.argTypes.toList with
  | .builtin .len, [t] => (P.underlying t).any (fun | .slice _ | .string => true | _ => false)
  | _, _ => false
/-- Hangs on no memory, if its operands are as 'Side' says. -/
def isFree (P : Program) (o : Oper) : Bool :=
  match o.op with
  | .move _ | .assign _ | .pick .. | .nilCheck _ | .extract .. | .indexAddr .. | .slice .. | .field .. | .binOp .. => true
  | .fieldAddr s _ f => fieldSized P s f
  | .convert _ d _ => (P.underlying d).any (fun | .int _ => true | _ => false)
  | .call c => lenOf P c
  | _ => false
def isInt : Value → Bool
  | .int _ _ => true
  | _ => false
/-- What is owed at an operation besides its own outcome. -/
def Side (w : World) (ρ : Operand → Value) (o : Oper) : Prop :=
  match o.op with
  | .binOp _ _ x y _ => isInt (ρ x) = true ∧ isInt (ρ y) = true
  | .convert _ _ x => isInt (ρ x) = true
  | .nilCheck x => ∃ a, ρ x = .pointer a
  | .load _ x => ∃ a v, ρ x = .pointer (some a) ∧ w.cell? a = some v
  | _ => True

theorem isInt_some {v : Value} (h : isInt v = true) : ∃ k n, v = .int k n := by
  cases v <;> simp [isInt] at h
  exact ⟨_, _, rfl⟩

theorem free_len (t : TypeId) (ty : TypeId) (args : Array Value) (h : (P.underlying t).any (fun | .slice _ | .string => true | _ => false) = true) : Free P (Builtin.len_ #[t] ty args) := by
  obtain ⟨u, hu, hk⟩ := (Option.any_eq_true _ _).1 h
  cases hx : args[0]? with
  | none => exact .inr fun w => ⟨_, w, by simp [Builtin.len_, hx, Go.stuck, Sem.run]; rfl⟩
  | some x =>
    cases u <;> simp at hk
    · cases x <;> first
        | exact .inl ⟨_, fun w => by simp [Builtin.len_, hx, Go.underlying, Go.program, hu, Sem.run]; rfl⟩
        | exact .inr fun w => ⟨_, w, by simp [Builtin.len_, hx, Go.underlying, Go.program, hu, Sem.run, Go.stuck]; rfl⟩
    · cases x <;> first
        | exact .inl ⟨_, fun w => by simp [Builtin.len_, hx, Go.underlying, Go.program, hu, Sem.run]; rfl⟩
        | exact .inr fun w => ⟨_, w, by simp [Builtin.len_, hx, Go.underlying, Go.program, hu, Sem.run, Go.stuck]; rfl⟩

/-- Of one outcome: a value, whatever the world; or none. -/
def FreeN (P : Program) (s : Sem Next) : Prop := (∃ v, ∀ w, s.run P w = .ok (.value v) w) ∨ ∀ w, ∃ h w', s.run P w = .halt h w'
theorem Free.next {s : Sem Value} (h : Free P s) : FreeN P (do Pure.pure (Next.value (← s))) := by
  rcases h with ⟨v, hv⟩ | hh
  · exact .inl ⟨v, fun w => by simp [hv w]⟩
  · exact .inr fun w => by obtain ⟨h, w', e⟩ := hh w; exact ⟨h, w', by simp [e]⟩

theorem isFree_spec {o : Oper} {ρ : Operand → Value} {w : World} (hf : isFree P o = true) (hs : Side w ρ o) : FreeN P (execOp ρ o) := by
  obtain ⟨dst, op, type, pos, after, guard⟩ := o
  unfold isFree at hf
  unfold Side at hs
  cases op <;> dsimp only at hf hs <;> try contradiction
  case move x => exact .inl ⟨_, fun w => rfl⟩
  case assign x => exact .inl ⟨_, fun w => rfl⟩
  case pick c a b =>
    rcases Free.asBool (P := P) (ρ c) with ⟨v, hv⟩ | hh
    · exact .inl ⟨if v then ρ a else ρ b, fun w => by simp [execOp, hv w]⟩
    · exact .inr fun w => by obtain ⟨h, w', e⟩ := hh w; exact ⟨h, w', by simp [execOp, e]⟩
  case nilCheck x =>
    obtain ⟨a, ha⟩ := hs
    cases a with
    | none => exact .inr fun w => by obtain ⟨h, w', e⟩ := (Never.runtimePanic (P := P) (α := Next) .nilDeref).out w; exact ⟨h, w', by simp only [execOp, ha]; exact e⟩
    | some a => exact .inl ⟨_, fun w => by simp only [execOp, ha]; rfl⟩
  case binOp op t x y yt =>
    obtain ⟨k, n, h1⟩ := isInt_some hs.1
    obtain ⟨k', m, h2⟩ := isInt_some hs.2
    have : Free P (do eqGuard op t x y (ρ x) (ρ y); binOp op t (ρ x) (ρ y)) := by
      rw [h1, h2]; exact .bind (.guard ..) fun _ => .binOp ..
    exact this.next
  case convert s d x =>
    obtain ⟨k, n, h1⟩ := isInt_some hs
    have : Free P (convert s d (ρ x)) := by rw [h1]; exact .convert s d k n hf
    exact this.next
  case slice t x lo hi mx => exact (Free.sliceAt ..).next
  case fieldAddr s x f => exact (Free.fieldAt s _ f hf).next
  case field t x f => exact (Free.field ..).next
  case indexAddr t x ix => exact (Free.indexAt ..).next
  case extract t i => exact (Free.extract ..).next
  case call c =>
    obtain ⟨callee, args, argTypes⟩ := c
    unfold lenOf at hf
    dsimp only at hf
    split at hf
    · rename_i t ht
      obtain rfl : argTypes = #[t] := by have := congrArg List.toArray ht; simpa using this
      rcases free_len (P := P) t type (args.map ρ) hf with ⟨v, hv⟩ | hh
      · exact .inl ⟨v, fun w => by simp [execOp, resolve, invoke, builtin, hv w]⟩
      · exact .inr fun w => by obtain ⟨h, w', e⟩ := hh w; exact ⟨h, w', by simp [execOp, resolve, invoke, builtin, e]⟩
    · cases hf

/-! ### 3. A read, and a new block -/
theorem cell_alloc {w : World} {a : Addr} {v : Value} (o : Obj) (h : w.cell? a = some v) : (w.alloc o).cell? a = some v := by
  unfold World.cell? at *
  have hb : (w.alloc o).heap[a.block]? = w.heap[a.block]? := by
    show (w.heap.push o)[a.block]? = _
    rw [Array.getElem?_push]
    split
    · rename_i e
      rw [e, Array.getElem?_eq_none (Nat.le_refl _)] at h
      cases h
    · rfl
  rw [hb]; exact h

/-- Only reads cells of blocks that are there: the same again behind a new block. -/
def Reads (P : Program) {α : Type} (w : World) (s : Sem α) : Prop := (∃ v, s.run P w = .ok v w ∧ ∀ o, s.run P (w.alloc o) = .ok v (w.alloc o)) ∨ ∃ h w', s.run P w = .halt h w'
theorem Reads.pure (w : World) (a : α) : Reads P w (Pure.pure a : Sem α) := .inl ⟨a, by simp, fun o => by simp⟩
theorem Reads.bind {w : World} {s : Sem α} {f : α → Sem β} (hs : Reads P w s) (hf : ∀ a, Reads P w (f a)) : Reads P w (s >>= f) := by
  rcases hs with ⟨v, h1, h2⟩ | ⟨h, w', e⟩
  · rcases hf v with ⟨u, g1, g2⟩ | ⟨h, w', e⟩
    · exact .inl ⟨u, by simp [h1, g1], fun o => by simp [h2 o, g2 o]⟩
    · exact .inr ⟨h, w', by simp [h1, e]⟩
  · exact .inr ⟨h, w', by simp [e]⟩
theorem Free.reads {w : World} {s : Sem α} (h : Free P s) : Reads P w s := by
  rcases h with ⟨v, hv⟩ | hh
  · exact .inl ⟨v, hv w, fun o => hv _⟩
  · exact .inr (hh w)
theorem Reads.load {w : World} {a : Addr} {c : Array Value} {e : TypeId} {f : Nat × Nat} (h : w.heap[a.block]? = some (.cells c e f)) : Reads P w (load a) := by
  unfold Go.load
  cases hc : w.cell? a with
  | some v => exact .inl ⟨v, by simp [Sem.run, hc], fun o => by simp [Sem.run, cell_alloc o hc]⟩
  | none => exact .inr ⟨_, w, by simp [Sem.run, hc, World.farLoad, h]; rfl⟩
theorem Reads.cells {w : World} {c : Array Value} {e : TypeId} {f : Nat × Nat} {a : Addr} (h : w.heap[a.block]? = some (.cells c e f)) (n : Nat) : ∀ (i : Nat) (acc : Array Value), Reads P w (loadCellsFrom a i n acc) := by
  have hb : ∀ i, (a.add i).block = a.block := fun i => by unfold Addr.add; split <;> rfl
  induction n with
  | zero => exact fun i acc => .pure _ _
  | succ n ih => exact fun i acc => .bind (.load (by rw [hb]; exact h)) fun v => ih _ _
theorem isLoad_spec {o : Oper} {ρ : Operand → Value} {w : World} (hl : isLoad o = true) (hs : Side w ρ o) :
    (∃ v, (execOp ρ o).run P w = .ok (.value v) w ∧ ∀ b, (execOp ρ o).run P (w.alloc b) = .ok (.value v) (w.alloc b)) ∨ ∃ h w', (execOp ρ o).run P w = .halt h w' := by
  obtain ⟨dst, op, type, pos, after, guard⟩ := o
  cases op <;> simp only [isLoad] at hl <;> try contradiction
  rename_i t x
  obtain ⟨a, v, hx, hc⟩ := hs
  have hblk : ∃ c e f, w.heap[a.block]? = some (.cells c e f) := by
    unfold World.cell? at hc
    split at hc
    · rename_i c e f he; exact ⟨c, e, f, he⟩
    · cases hc
  obtain ⟨c, e, f, hblk⟩ := hblk
  have hr : Reads P w (Instr.loadAt t (ρ x)) := by
    rw [hx]
    show Reads P w (loadVar t a)
    unfold loadVar
    refine .bind (Free.reads (by unfold isAgg; repeat' (first | exact Free.pure _ | exact Free.stuck _ | exact Free.unsupported _ | exact Free.typeInfo _ | exact Free.underlying _ | exact Free.sizeOf _ | exact Free.zeroValue _ | exact Never.free (Never.runtimePanic _) | exact Never.free (Never.boundsPanic _ _ _ _) | exact Free.asIntOf _ | exact Free.asBool _ | exact Free.sureAddr _ | exact Free.program | dsimp only | split | refine Free.bind ?_ (fun _ => ?_)))) fun g => ?_
    split
    · refine .bind (Free.reads (.sizeOf t)) fun n => .bind ?_ fun cs => .pure _ _
      exact .cells hblk n 0 _
    · exact .load hblk
  rcases hr with ⟨u, h1, h2⟩ | ⟨h, w', e⟩
  · exact .inl ⟨u, by simp [execOp, h1], fun b => by simp [execOp, h2 b]⟩
  · exact .inr ⟨h, w', by simp [execOp, e]⟩
/-- A new block, and nothing else. -/
theorem isNew_spec {o : Oper} {ρ : Operand → Value} (w : World) (hn : isNew o = true) :
    (∃ v b, (execOp ρ o).run P w = .ok (.value v) (w.alloc b)) ∨ ∃ h w', (execOp ρ o).run P w = .halt h w' := by
  obtain ⟨dst, op, type, pos, after, guard⟩ := o
  have row : ∀ (e : TypeId) (cs : Array Value), (newRow e cs).run P w = .ok ⟨w.heap.size, 0, none⟩ (w.alloc (.cells cs e)) := fun e cs => rfl
  have bind : ∀ {α : Type} {s : Sem α} {f : α → Sem Value}, Free P s → (∀ a, (∃ v b, (f a).run P w = .ok v (w.alloc b)) ∨ ∃ h w', (f a).run P w = .halt h w') → (∃ v b, (s >>= f).run P w = .ok v (w.alloc b)) ∨ ∃ h w', (s >>= f).run P w = .halt h w' := by
    intro α s f hs hf
    rcases hs with ⟨v, hv⟩ | hh
    · rcases hf v with ⟨u, b, e⟩ | ⟨h, w', e⟩
      · exact .inl ⟨u, b, by simp [hv w, e]⟩
      · exact .inr ⟨h, w', by simp [hv w, e]⟩
    · obtain ⟨h, w', e⟩ := hh w; exact .inr ⟨h, w', by simp [e]⟩
  have next : ∀ {s : Sem Value}, ((∃ v b, s.run P w = .ok v (w.alloc b)) ∨ ∃ h w', s.run P w = .halt h w') → ((∃ v b, (do Pure.pure (Next.value (← s)) : Sem Next).run P w = .ok (.value v) (w.alloc b)) ∨ ∃ h w', (do Pure.pure (Next.value (← s)) : Sem Next).run P w = .halt h w') := by
    rintro s (⟨v, b, e⟩ | ⟨h, w', e⟩)
    · exact .inl ⟨v, b, by simp [e]⟩
    · exact .inr ⟨h, w', by simp [e]⟩
  cases op <;> simp only [isNew] at hn <;> try contradiction
  case alloc e => exact next (bind (.zeroValue e) fun z => .inl ⟨_, _, by simp [newVar, row]; exact ⟨rfl, rfl⟩⟩)
  case box e x => exact next (.inl ⟨_, _, by simp [Instr.box, newVar, row]; exact ⟨rfl, rfl⟩⟩)
  case buildSlice t n ps =>
    refine next ?_
    unfold Instr.buildSlice
    have stop : ∀ m, (∃ v b, (Go.stuck m : Sem Value).run P w = .ok v (w.alloc b)) ∨ ∃ h w', (Go.stuck m : Sem Value).run P w = .halt h w' := fun m => .inr ⟨_, _, rfl⟩
    refine bind (.underlying t) fun u => ?_
    split
    · rename_i e
      refine bind (.sizeOf e) fun k => ?_
      have fin : ∀ z : Array Value, (∃ v b, (match Instr.fill (fun i => some (i * k, k)) ((Array.range (n * k)).map (fun x => z[x % z.size]!)) (ps.map fun x => (x.1, ρ x.2)).toList with
            | some cells => do
              let a ← newRow e cells
              Pure.pure (Value.slice (some a) n n)
            | _ => Go.stuck "buildSlice: a part of the wrong size" : Sem Value).run P w = .ok v (w.alloc b)) ∨ ∃ h w', (match Instr.fill (fun i => some (i * k, k)) ((Array.range (n * k)).map (fun x => z[x % z.size]!)) (ps.map fun x => (x.1, ρ x.2)).toList with
            | some cells => do
              let a ← newRow e cells
              Pure.pure (Value.slice (some a) n n)
            | _ => Go.stuck "buildSlice: a part of the wrong size" : Sem Value).run P w = .halt h w' := by
        intro z
        split
        · exact .inl ⟨_, _, by rw [Sem.run_bind, row]; rfl⟩
        · exact stop _
      dsimp only
      split
      · exact .inr ⟨_, _, rfl⟩
      · split
        · exact bind (.pure _) fun z => fin z
        · exact bind (.zeroValue e) fun z => bind (.pure _) fun z => fin z
    · exact stop _
end
end Go.Proofs.Ytncnkfjddolabaa.Dr
