/- A region whose order is drawn, walked in the order of its text: also with calls that touch no memory ('pure'), and with calls that only make memory ('keep'). -/
import Derived.Test.YtncnkfjddolabaaDr2
set_option linter.unusedSimpArgs false
set_option linter.unusedVariables false
namespace Go.Proofs.Ytncnkfjddolabaa.Dq
open Go Go.Proofs.Ytncnkfjddolabaa.Dr

def noQ : Exit → Act → World → Prop := fun _ _ _ => False

/-- Which calls touch no memory, and what they answer; which only make memory. -/
structure PS where
  pu : Nat → Bool
  sp : Nat → Array Value → Value
  ke : Nat → Bool

def callOf (o : Oper) : Option (Nat × Array Operand) := match o.op with
  | .call c => (match c.callee with | .value (.func n) => some (n, c.args) | _ => none)
  | _ => none
def isPure (S : PS) (o : Oper) : Bool := (callOf o).any fun x => S.pu x.1
def isKeep (S : PS) (o : Oper) : Bool := (callOf o).any fun x => S.ke x.1
def pv (S : PS) (o : Oper) (ρ : Operand → Value) : Value := match callOf o with
  | some (n, as) => S.sp n (as.map ρ)
  | none => undef
def Kb (w w' : World) : Prop := ∀ k, k < w.heap.size → w'.heap[k]? = w.heap[k]?
def RunsTo (P : Program) (e : Sem Next) (w : World) (v : Value) : Prop := ∃ f args, e.run P w = .ok (.enter f args) w ∧ Calls P f args w fun e w' => e = .returned v ∧ w = w'

section
variable {S : PS} {P : Program} {ops : Array Oper} {K K' : Act → World → Prop} {a : Act} {w : World} {p i o : Oper}

def core (S : PS) (P : Program) (o : Oper) (K : Act → World → Prop) (a : Act) (w : World) : Prop :=
  if isPure S o = true then (∀ w', RunsTo P (execOp a.eval o) w' (pv S o a.eval)) ∧ K (a.put o.dst (pv S o a.eval)) w
  else if isKeep S o = true then o.wp P a w (fun a' w' => Kb w w' ∧ K a' w') noQ
  else Side w a.eval o ∧ o.wp P a w K noQ
def wpOne (S : PS) (P : Program) (ops : Array Oper) (o : Oper) (K : Act → World → Prop) (a : Act) (w : World) : Prop :=
  if Region.wanted o (yielded ops a.tmps) = true then core S P o K a w else K (a.put o.dst undef) w
def wpT (S : PS) (P : Program) (ops : Array Oper) (Q : Act → World → Prop) : List Oper → Act → World → Prop
  | [], a, w => Q a w
  | o :: r, a, w => wpOne S P ops o (wpT S P ops Q r) a w

/-- Where an operation leaves the frame. -/
def Near (a : Act) (o : Oper) (a' : Act) : Prop := ∃ ds v, a' = ({ a with defers := ds } : Act).put o.dst v

theorem wp_near (h : ∀ a' w', Near a o a' → K a' w' → K' a' w') (hh : o.wp P a w K noQ) : o.wp P a w K' noQ := by
  unfold Oper.wp at *
  generalize (execOp a.eval o).run P w = r at *
  cases r with
  | ok n w' =>
    cases n <;> simp only [Oper.upon] at hh ⊢
    case value v => exact h _ _ ⟨a.defers, v, rfl⟩ hh
    case skip => exact h _ _ ⟨a.defers, undef, rfl⟩ hh
    case defer d => exact h _ _ ⟨_, undef, rfl⟩ hh
    case enter f args => exact Calls.mono hh fun e w'' he => by cases e <;> first | exact h _ _ ⟨a.defers, _, rfl⟩ he | exact he
    case row r args => exact Rows.mono hh fun v w'' he => h _ _ ⟨a.defers, v, rfl⟩ he
  | halt x w' => cases x <;> simp only [Oper.upon] at hh ⊢ <;> exact hh
theorem wp_some (hh : o.wp P a w K noQ) : ∃ a' w', Near a o a' ∧ K a' w' := by
  unfold Oper.wp at hh
  generalize (execOp a.eval o).run P w = r at *
  cases r with
  | ok n w' =>
    cases n <;> simp only [Oper.upon] at hh
    case value v => exact ⟨_, _, ⟨a.defers, v, rfl⟩, hh⟩
    case skip => exact ⟨_, _, ⟨a.defers, undef, rfl⟩, hh⟩
    case defer d => exact ⟨_, _, ⟨_, undef, rfl⟩, hh⟩
    case enter f args =>
      obtain ⟨e, w'', fr, hR, _⟩ := hh []
      cases e with
      | returned v => exact ⟨_, _, ⟨a.defers, v, rfl⟩, hR⟩
      | panicked c => exact hR.elim
      | outgrown => exact hR.elim fun _ h => h.elim fun _ h => h.elim
    case row r args =>
      obtain ⟨v, w'', hR, _⟩ := hh default []
      exact ⟨_, _, ⟨a.defers, v, rfl⟩, hR⟩
  | halt x w' => cases x <;> simp only [Oper.upon] at hh <;> exact hh.elim
theorem wp_runs {v : Value} (h : RunsTo P (execOp a.eval o) w v) (hk : K (a.put o.dst v) w) : o.wp P a w K noQ := by
  obtain ⟨f, args, e, hc⟩ := h
  unfold Oper.wp
  rw [e]
  simp only [Oper.upon]
  refine Calls.mono hc ?_
  rintro e w' ⟨rfl, rfl⟩
  exact hk

theorem core_near (h : ∀ a' w', Near a o a' → K a' w' → K' a' w') (hh : core S P o K a w) : core S P o K' a w := by
  unfold core at *
  split at hh
  · rename_i hp; rw [if_pos hp]; exact ⟨hh.1, h _ _ ⟨a.defers, _, rfl⟩ hh.2⟩
  · rename_i hp
    rw [if_neg hp]
    split at hh
    · rename_i hk; rw [if_pos hk]; exact wp_near (fun a' w' hn hx => ⟨hx.1, h _ _ hn hx.2⟩) hh
    · rename_i hk; rw [if_neg hk]; exact ⟨hh.1, wp_near h hh.2⟩
theorem core_some (hh : core S P o K a w) : ∃ a' w', Near a o a' ∧ K a' w' := by
  unfold core at hh
  split at hh
  · exact ⟨_, _, ⟨a.defers, _, rfl⟩, hh.2⟩
  · split at hh
    · obtain ⟨a', w', hn, hx⟩ := wp_some hh; exact ⟨a', w', hn, hx.2⟩
    · exact wp_some hh.2
/-- What the region's own law asks. -/
theorem core_wp (hh : core S P o K a w) : o.wp P a w K noQ := by
  unfold core at hh
  split at hh
  · exact wp_runs (hh.1 w) hh.2
  · split at hh
    · exact wp_near (fun a' w' _ hx => hx.2) hh
    · exact hh.2
theorem wpOne_near (h : ∀ a' w', Near a o a' → K a' w' → K' a' w') (hh : wpOne S P ops o K a w) : wpOne S P ops o K' a w := by
  unfold wpOne at *
  split at hh
  · rename_i hw; rw [if_pos hw]; exact core_near h hh
  · rename_i hw; rw [if_neg hw]; exact h _ _ ⟨a.defers, _, rfl⟩ hh
theorem wpOne_mono (h : ∀ a w, K a w → K' a w) (hh : wpOne S P ops o K a w) : wpOne S P ops o K' a w := wpOne_near (fun a w _ => h a w) hh
/-- The walk goes on somewhere. -/
theorem wpOne_some (hh : wpOne S P ops o K a w) : ∃ a' w', Near a o a' ∧ K a' w' := by
  unfold wpOne at hh
  split at hh
  · exact core_some hh
  · exact ⟨_, _, ⟨a.defers, _, rfl⟩, hh⟩

theorem Side_congr {ρ ρ' : Operand → Value} (h : ∀ x ∈ o.op.operands, ρ x = ρ' x) : Side w ρ o = Side w ρ' o := by
  obtain ⟨dst, op, type, pos, after, guard⟩ := o
  unfold Side
  cases op <;> dsimp only <;> simp only [Op.operands] at h
  case binOp op t x y yt => rw [h x (by simp), h y (by simp)]
  case convert s d x => rw [h x (by simp)]
  case nilCheck x => rw [h x (by simp)]
  case load t x => rw [h x (by simp)]
theorem looks {d : Option Tmp} (h : ∀ t, d = some t → t ∉ o.looksAt ops) (v : Value) : ∀ x ∈ o.op.operands, (a.put d v).eval x = a.eval x := fun x hx =>
  Act.eval_put fun t ht hxt => h t ht (by
    subst hxt
    exact List.mem_append_left _ (List.mem_filterMap.2 ⟨.tmp t, by simpa using hx, rfl⟩))

theorem pv_congr {ρ ρ' : Operand → Value} (h : ∀ x ∈ o.op.operands, ρ x = ρ' x) : pv S o ρ = pv S o ρ' := by
  obtain ⟨dst, op, type, pos, after, guard⟩ := o
  unfold pv callOf
  cases op <;> dsimp only
  case call c =>
    obtain ⟨callee, args, argTypes⟩ := c
    cases callee <;> dsimp only
    rename_i x
    cases x <;> dsimp only
    congr 1
    refine Array.map_congr_left fun y hy => h y ?_
    simp [Op.operands, Call.operands, hy]

/-- What an operation yields at a frame, whatever the world. -/
def FreeAct (S : PS) (P : Program) (ops : Array Oper) (o : Oper) (v : Value) (a : Act) : Prop :=
  (Region.wanted o (yielded ops a.tmps) = true ∧ ((isPure S o = true ∧ v = pv S o a.eval ∧ ∀ w, RunsTo P (execOp a.eval o) w v) ∨
    (isPure S o = false ∧ isKeep S o = false ∧ (∀ w, Side w a.eval o) ∧ ∀ w, (execOp a.eval o).run P w = .ok (.value v) w))) ∨ (Region.wanted o (yielded ops a.tmps) = false ∧ v = undef)
theorem FreeAct.wpOne {v : Value} (h : FreeAct S P ops o v a) (hk : K (a.put o.dst v) w) : wpOne S P ops o K a w := by
  unfold Dq.wpOne core
  rcases h with ⟨hw, ⟨hp, rfl, hr⟩ | ⟨hp, hke, hs, hr⟩⟩ | ⟨hw, rfl⟩
  · rw [if_pos hw, if_pos hp]; exact ⟨hr, hk⟩
  · rw [if_pos hw, hp, hke]
    simp only [Bool.false_eq_true, if_false]
    exact ⟨hs w, by simp only [Oper.wp, hr w, Oper.upon]; exact hk⟩
  · rw [hw]; simpa using hk
theorem FreeAct.of {v : Value} (h : FreeAct S P ops o v a) (hk : Dq.wpOne S P ops o K a w) : K (a.put o.dst v) w := by
  unfold Dq.wpOne core at hk
  rcases h with ⟨hw, ⟨hp, rfl, hr⟩ | ⟨hp, hke, hs, hr⟩⟩ | ⟨hw, rfl⟩
  · rw [if_pos hw, if_pos hp] at hk; exact hk.2
  · rw [if_pos hw, hp, hke] at hk
    simp only [Bool.false_eq_true, if_false] at hk
    have := hk.2
    simp only [Oper.wp, hr w, Oper.upon] at this
    exact this
  · rw [hw] at hk; simpa using hk
theorem FreeAct.congr {v : Value} {a' : Act} (he : execOp a'.eval o = execOp a.eval o) (hs : ∀ w, Side w a'.eval o = Side w a.eval o) (hw : Region.wanted o (yielded ops a'.tmps) = Region.wanted o (yielded ops a.tmps)) (hp : pv S o a'.eval = pv S o a.eval) :
    FreeAct S P ops o v a' ↔ FreeAct S P ops o v a := by unfold FreeAct; simp only [he, hs, hw, hp]
theorem near_same (hi : ∀ t, p.dst = some t → t ∉ i.looksAt ops) (hsi : ∀ cs b, i.op ≠ .select cs b) {a' : Act} (hn : Near a p a') :
    execOp a'.eval i = execOp a.eval i ∧ (∀ w, Side w a'.eval i = Side w a.eval i) ∧ Region.wanted i (yielded ops a'.tmps) = Region.wanted i (yielded ops a.tmps) ∧ ∀ S, pv S i a'.eval = pv S i a.eval := by
  obtain ⟨ds, v, rfl⟩ := hn
  refine ⟨(execOp_put i hsi ({ a with defers := ds } : Act) p.dst v hi).trans rfl, fun w => ?_, (wanted_put i ({ a with defers := ds } : Act) p.dst v hi).trans rfl, fun S => ?_⟩
  · exact (Side_congr (looks hi v)).trans rfl
  · exact (pv_congr (looks hi v)).trans rfl

theorem Free.mapL {α β : Type} {f : α → Sem β} (h : ∀ x, Free P (f x)) : ∀ l : List α, Free P (l.mapM f)
  | [] => by rw [List.mapM_nil]; exact Free.pure _
  | x :: l => by rw [List.mapM_cons]; exact .bind (h x) fun _ => .bind (Free.mapL h l) fun _ => .pure _
theorem Free.mapA {α β : Type} {f : α → Sem β} (h : ∀ x, Free P (f x)) (l : Array α) : Free P (l.mapM f) := by
  rw [Array.mapM_eq_mapM_toList, map_eq_pure_bind]
  exact .bind (Free.mapL h _) fun _ => .pure _
theorem Free.build (t : TypeId) (ps : Array (Nat × Value)) : Free P (Instr.build t ps) := by
  unfold Instr.build
  refine .bind (.zeroValue t) fun z => .bind (.underlying t) fun u => ?_
  split
  · refine .bind (Free.mapA (fun f => .bind (.sizeOf _) fun _ => .pure _) _) fun pl => ?_
    split <;> first | exact .pure _ | exact .stuck _
  · refine .bind (.sizeOf _) fun k => ?_
    split <;> first | exact .pure _ | exact .stuck _
  · exact .stuck _
def isBuild (o : Oper) : Bool := match o.op with | .build .. => true | _ => false
theorem side_all {ρ : Operand → Value} (hf : isFree P o = true ∨ isBuild o = true) (h : Side w ρ o) (w' : World) : Side w' ρ o := by
  obtain ⟨dst, op, type, pos, after, guard⟩ := o
  unfold isFree isBuild at hf
  unfold Side at *
  cases op <;> dsimp only at * <;> first | exact h | (simp at hf)
theorem free_spec {ρ : Operand → Value} (hf : isFree P o = true ∨ isBuild o = true) (hs : Side w ρ o) : FreeN P (execOp ρ o) := by
  rcases hf with hf | hf
  · exact isFree_spec hf hs
  · obtain ⟨dst, op, type, pos, after, guard⟩ := o
    cases op <;> simp only [isBuild] at hf <;> try contradiction
    exact (Free.build _ _).next
def isFree' (S : PS) (P : Program) (o : Oper) : Bool := isPure S o || ((isFree P o || isBuild o) && !isKeep S o)
theorem free_act (hf : isFree' S P o = true) (h : wpOne S P ops o K a w) : ∃ v, FreeAct S P ops o v a := by
  unfold wpOne core at h
  unfold isFree' at hf
  simp only [Bool.or_eq_true, Bool.and_eq_true, Bool.not_eq_true'] at hf
  split at h
  · rename_i hw
    cases hp : isPure S o
    · rw [hp] at hf h
      simp only [Bool.false_eq_true, false_or, if_false] at hf h
      rw [hf.2] at h
      simp only [Bool.false_eq_true, if_false] at h
      rcases free_spec hf.1 h.1 with ⟨v, hv⟩ | hh
      · exact ⟨v, .inl ⟨hw, .inr ⟨hp, hf.2, side_all hf.1 h.1, hv⟩⟩⟩
      · obtain ⟨x, w', e⟩ := hh w
        have := h.2
        unfold Oper.wp at this
        rw [e] at this
        cases x <;> simp only [Oper.upon] at this <;> exact this.elim
    · rw [hp] at h
      exact ⟨_, .inl ⟨hw, .inl ⟨hp, rfl, h.1⟩⟩⟩
  · rename_i hw; exact ⟨undef, .inr ⟨by simpa using hw, rfl⟩⟩

theorem wp_past {v : Value} {K1 K2 : Act → World → Prop} (e1 : execOp (a.put p.dst v).eval i = execOp a.eval i)
    (fin : ∀ (ds : List Deferred) u w', K1 ((({ a with defers := ds } : Act).put p.dst v).put i.dst u) w' → K2 (({ a with defers := ds } : Act).put i.dst u) w') (hh : i.wp P (a.put p.dst v) w K1 noQ) : i.wp P a w K2 noQ := by
  unfold Oper.wp at *
  rw [e1] at hh
  generalize (execOp a.eval i).run P w = r at *
  cases r with
  | ok n w' =>
    cases n <;> simp only [Oper.upon] at hh ⊢
    case value u => exact fin a.defers u w' hh
    case skip => exact fin a.defers _ w' hh
    case defer d => refine fin (d :: a.defers) _ w' ?_; rw [← Act.put_defers]; exact hh
    case enter f args => exact Calls.mono hh fun e w'' he => by cases e <;> first | exact fin a.defers _ w'' he | exact he
    case row r args => exact Rows.mono hh fun u w'' he => fin a.defers u w'' he
  | halt x w' => cases x <;> simp only [Oper.upon] at hh ⊢ <;> exact hh.elim
theorem wp_ahead {u : Value} {K1 K2 : Act → World → Prop} (e1 : execOp (a.put i.dst u).eval p = execOp a.eval p)
    (fin : ∀ (ds : List Deferred) v w', K1 (({ a with defers := ds } : Act).put p.dst v) w' → K2 ((({ a with defers := ds } : Act).put i.dst u).put p.dst v) w') (hh : p.wp P a w K1 noQ) : p.wp P (a.put i.dst u) w K2 noQ := by
  unfold Oper.wp at *
  rw [e1]
  generalize (execOp a.eval p).run P w = r at *
  cases r with
  | ok n w' =>
    cases n <;> simp only [Oper.upon] at hh ⊢
    case value v => exact fin a.defers v w' hh
    case skip => exact fin a.defers _ w' hh
    case defer d => have := fin (d :: a.defers) _ w' hh; rw [← Act.put_defers] at this; exact this
    case enter f args => exact Calls.mono hh fun e w'' he => by cases e <;> first | exact fin a.defers _ w'' he | exact he
    case row r args => exact Rows.mono hh fun v w'' he => fin a.defers v w'' he
  | halt x w' => cases x <;> simp only [Oper.upon] at hh ⊢ <;> exact hh.elim

/-- One that yields, moved behind another one. -/
theorem past {v : Value} (hap : p.apart ops i = true) (hsp : ∀ cs b, p.op ≠ .select cs b) (hsi : ∀ cs b, i.op ≠ .select cs b) (hy : FreeAct S P ops p v a) (h : wpOne S P ops i K (a.put p.dst v) w) :
    wpOne S P ops i (wpOne S P ops p K) a w := by
  obtain ⟨h1, h2, h3⟩ := Oper.apart_spec hap
  have hn : Near a p (a.put p.dst v) := ⟨a.defers, v, rfl⟩
  obtain ⟨e1, e2, e3, e4⟩ := near_same h1 hsi hn
  have fin : ∀ (ds : List Deferred) u w', K ((({ a with defers := ds } : Act).put p.dst v).put i.dst u) w' → wpOne S P ops p K (({ a with defers := ds } : Act).put i.dst u) w' := fun ds u w' hk => by
    obtain ⟨g1, g2, g3, g4⟩ := near_same h3 hsp (⟨ds, u, rfl⟩ : Near a i (({ a with defers := ds } : Act).put i.dst u))
    refine ((FreeAct.congr g1 g2 g3 (g4 S)).2 hy).wpOne ?_
    rw [← Act.put_comm _ v u h2]; exact hk
  unfold wpOne at h
  unfold wpOne
  rw [e3] at h
  split
  · rename_i hw
    rw [if_pos hw] at h
    unfold core at h ⊢
    split
    · rename_i hp
      rw [if_pos hp, e1, e4 S] at h
      exact ⟨h.1, fin a.defers _ w h.2⟩
    · rename_i hp
      rw [if_neg hp] at h
      split
      · rename_i hk
        rw [if_pos hk] at h
        exact wp_past e1 (fun ds u w' hx => ⟨hx.1, fin ds u w' hx.2⟩) h
      · rename_i hk
        rw [if_neg hk, e2 w] at h
        exact ⟨h.1, wp_past e1 fin h.2⟩
  · rename_i hw
    rw [if_neg hw] at h
    exact fin a.defers _ w h
/-- One that yields, moved ahead of another one. -/
theorem ahead {u : Value} (hap : p.apart ops i = true) (hsp : ∀ cs b, p.op ≠ .select cs b) (h : wpOne S P ops p (fun a' w' => K (a'.put i.dst u) w') a w) : wpOne S P ops p K (a.put i.dst u) w := by
  obtain ⟨h1, h2, h3⟩ := Oper.apart_spec hap
  obtain ⟨e1, e2, e3, e4⟩ := near_same h3 hsp (⟨a.defers, u, rfl⟩ : Near a i (a.put i.dst u))
  have fin : ∀ (ds : List Deferred) v w', K ((({ a with defers := ds } : Act).put p.dst v).put i.dst u) w' → K ((({ a with defers := ds } : Act).put i.dst u).put p.dst v) w' := fun ds v w' hk => by
    rw [← Act.put_comm _ v u h2]; exact hk
  unfold wpOne at *
  rw [e3]
  split
  · rename_i hw
    rw [if_pos hw] at h
    unfold core at h ⊢
    split
    · rename_i hp
      rw [if_pos hp] at h
      rw [e1, e4 S]
      exact ⟨h.1, fin a.defers _ w h.2⟩
    · rename_i hp
      rw [if_neg hp] at h
      split
      · rename_i hk
        rw [if_pos hk] at h
        exact wp_ahead e1 (fun ds u w' hx => ⟨hx.1, fin ds u w' hx.2⟩) h
      · rename_i hk
        rw [if_neg hk] at h
        rw [e2 w]
        exact ⟨h.1, wp_ahead e1 fin h.2⟩
  · rename_i hw
    rw [if_neg hw] at h
    exact fin a.defers _ w h

/-- Only reads cells of blocks that are there: the same again where these are as they were. -/
def Reads (P : Program) {α : Type} (w : World) (s : Sem α) : Prop := (∃ v, s.run P w = .ok v w ∧ ∀ w', Kb w w' → s.run P w' = .ok v w') ∨ ∃ h w', s.run P w = .halt h w'
theorem Reads.pure {α : Type} (w : World) (a : α) : Reads P w (Pure.pure a : Sem α) := .inl ⟨a, by simp, fun o _ => by simp⟩
theorem Reads.bind {α β : Type} {w : World} {s : Sem α} {f : α → Sem β} (hs : Reads P w s) (hf : ∀ a, Reads P w (f a)) : Reads P w (s >>= f) := by
  rcases hs with ⟨v, h1, h2⟩ | ⟨h, w', e⟩
  · rcases hf v with ⟨u, g1, g2⟩ | ⟨h, w', e⟩
    · exact .inl ⟨u, by simp [h1, g1], fun o ho => by simp [h2 o ho, g2 o ho]⟩
    · exact .inr ⟨h, w', by simp [h1, e]⟩
  · exact .inr ⟨h, w', by simp [e]⟩
theorem Free.kreads {α : Type} {w : World} {s : Sem α} (h : Free P s) : Reads P w s := by
  rcases h with ⟨v, hv⟩ | hh
  · exact .inl ⟨v, hv w, fun o _ => hv _⟩
  · exact .inr (hh w)
theorem cell_kb {w w' : World} (hk : Kb w w') {a : Addr} {v : Value} (h : w.cell? a = some v) : w'.cell? a = some v := by
  have hb : a.block < w.heap.size := by
    unfold World.cell? at h
    cases e : w.heap[a.block]? with
    | none => simp [e] at h
    | some x => exact (Array.getElem?_eq_some_iff.1 e).1
  unfold World.cell? at *
  rw [hk _ hb]; exact h
theorem Reads.load {w : World} {a : Addr} {c : Array Value} {e : TypeId} {f : Nat × Nat} (h : w.heap[a.block]? = some (.cells c e f)) : Reads P w (load a) := by
  unfold Go.load
  cases hc : w.cell? a with
  | some v => exact .inl ⟨v, by simp [Sem.run, hc], fun o ho => by simp [Sem.run, cell_kb ho hc]⟩
  | none => exact .inr ⟨_, w, by simp [Sem.run, hc, World.farLoad, h]; rfl⟩
theorem Reads.cells {w : World} {c : Array Value} {e : TypeId} {f : Nat × Nat} {a : Addr} (h : w.heap[a.block]? = some (.cells c e f)) (n : Nat) : ∀ (i : Nat) (acc : Array Value), Reads P w (loadCellsFrom a i n acc) := by
  have hb : ∀ i, (a.add i).block = a.block := fun i => by unfold Addr.add; split <;> rfl
  induction n with
  | zero => exact fun i acc => .pure _ _
  | succ n ih => exact fun i acc => .bind (.load (by rw [hb]; exact h)) fun v => ih _ _
theorem isLoad_spec {o : Oper} {ρ : Operand → Value} {w : World} (hl : isLoad o = true) (hs : Side w ρ o) :
    (∃ v, (execOp ρ o).run P w = .ok (.value v) w ∧ ∀ w', Kb w w' → (execOp ρ o).run P w' = .ok (.value v) w') ∨ ∃ h w', (execOp ρ o).run P w = .halt h w' := by
  obtain ⟨dst, op, type, pos, after, guard⟩ := o
  cases op <;> simp only [isLoad] at hl <;> try contradiction
  rename_i t x
  obtain ⟨a, v, hx, hc⟩ := hs
  have hblk : ∃ c e f, w.heap[a.block]? = some (.cells c e f) := by
    unfold World.cell? at hc
    split at hc
    · rename_i c e f he; exact ⟨c, e, f, he⟩
    · cases hc
  obtain ⟨c, e, f, hblk⟩ := hblk
  have hr : Reads P w (Instr.loadAt t (ρ x)) := by
    rw [hx]
    show Reads P w (loadVar t a)
    unfold loadVar
    refine .bind (Free.kreads (by unfold isAgg; repeat' (first | exact Free.pure _ | exact Free.stuck _ | exact Free.unsupported _ | exact Free.typeInfo _ | exact Free.underlying _ | exact Free.sizeOf _ | exact Free.zeroValue _ | exact Never.free (Never.runtimePanic _) | exact Never.free (Never.boundsPanic _ _ _ _) | exact Free.asIntOf _ | exact Free.asBool _ | exact Free.sureAddr _ | exact Free.program | dsimp only | split | refine Free.bind ?_ (fun _ => ?_)))) fun g => ?_
    split
    · refine .bind (Free.kreads (.sizeOf t)) fun n => .bind ?_ fun cs => .pure _ _
      exact .cells hblk n 0 _
    · exact .load hblk
  rcases hr with ⟨u, h1, h2⟩ | ⟨h, w', e⟩
  · exact .inl ⟨u, by simp [execOp, h1], fun b hb => by simp [execOp, h2 b hb]⟩
  · exact .inr ⟨h, w', by simp [execOp, e]⟩
theorem load_no (hl : isLoad o = true) : isPure S o = false ∧ isKeep S o = false := by
  obtain ⟨dst, op, type, pos, after, guard⟩ := o
  cases op <;> simp only [isLoad] at hl <;> first | contradiction | exact ⟨rfl, rfl⟩
theorem new_no (hl : isNew o = true) : isPure S o = false ∧ isKeep S o = false := by
  obtain ⟨dst, op, type, pos, after, guard⟩ := o
  cases op <;> simp only [isNew] at hl <;> first | contradiction | exact ⟨rfl, rfl⟩
theorem kb_alloc (w : World) (b : Obj) : Kb w (w.alloc b) := fun k hk => by
  show (w.heap.push b)[k]? = _
  rw [Array.getElem?_push, if_neg (by omega)]

def allowed (S : PS) (P : Program) (p i : Oper) : Bool := isFree' S P p || isFree' S P i || (isLoad p && (isLoad i || isNew i || (isKeep S i && !isPure S i)))

theorem swap_free_left (hap : p.apart ops i = true) (hsp : ∀ cs b, p.op ≠ .select cs b) (hsi : ∀ cs b, i.op ≠ .select cs b) {v : Value} (hy : FreeAct S P ops p v a) (h : wpOne S P ops p (wpOne S P ops i K) a w) : wpOne S P ops i (wpOne S P ops p K) a w :=
  past hap hsp hsi hy (hy.of h)
theorem swap_free_right (hap : p.apart ops i = true) (hsp : ∀ cs b, p.op ≠ .select cs b) (hsi : ∀ cs b, i.op ≠ .select cs b) {u : Value} (hy : FreeAct S P ops i u a) (h : wpOne S P ops p (wpOne S P ops i K) a w) : wpOne S P ops i (wpOne S P ops p K) a w := by
  obtain ⟨h1, h2, h3⟩ := Oper.apart_spec hap
  refine hy.wpOne (ahead hap hsp (wpOne_near (fun a' w' hn hk => ?_) h))
  obtain ⟨g1, g2, g3, g4⟩ := near_same h1 hsi hn
  exact ((FreeAct.congr g1 g2 g3 (g4 S)).2 hy).of hk
theorem swap (hap : p.apart ops i = true) (hsp : ∀ cs b, p.op ≠ .select cs b) (hsi : ∀ cs b, i.op ≠ .select cs b) (hal : allowed S P p i = true) (h : wpOne S P ops p (wpOne S P ops i K) a w) :
    wpOne S P ops i (wpOne S P ops p K) a w := by
  obtain ⟨h1, h2, h3⟩ := Oper.apart_spec hap
  cases hwp : Region.wanted p (yielded ops a.tmps)
  · exact swap_free_left hap hsp hsi (v := undef) (.inr ⟨hwp, rfl⟩) h
  cases hwi : Region.wanted i (yielded ops a.tmps)
  · exact swap_free_right hap hsp hsi (u := undef) (.inr ⟨hwi, rfl⟩) h
  unfold allowed at hal
  simp only [Bool.or_eq_true, Bool.and_eq_true] at hal
  rcases hal with (hf | hf) | ⟨hl, hi⟩
  · obtain ⟨v, hy⟩ := free_act hf h
    exact swap_free_left hap hsp hsi hy h
  · obtain ⟨a', w', hn, hk⟩ := wpOne_some h
    obtain ⟨u, hy⟩ := free_act hf hk
    obtain ⟨g1, g2, g3, g4⟩ := near_same h1 hsi hn
    exact swap_free_right hap hsp hsi ((FreeAct.congr g1 g2 g3 (g4 S)).1 hy) h
  · obtain ⟨lp, lk⟩ := load_no (S := S) hl
    unfold wpOne at h
    rw [if_pos hwp] at h
    unfold core at h
    rw [lp, lk] at h
    simp only [Bool.false_eq_true, if_false] at h
    obtain ⟨hsd, h⟩ := h
    change p.upon P a (wpOne S P ops i K) noQ ((execOp a.eval p).run P w) at h
    rcases isLoad_spec (P := P) hl hsd with ⟨v, r1, r2⟩ | ⟨x, w', e⟩
    case inr => rw [e] at h; cases x <;> simp only [Oper.upon] at h <;> exact h.elim
    rw [r1] at h
    change wpOne S P ops i K (a.put p.dst v) w at h
    obtain ⟨e1, e2, e3, e4⟩ := near_same h1 hsi (⟨a.defers, v, rfl⟩ : Near a p (a.put p.dst v))
    change (if Region.wanted i (yielded ops (a.put p.dst v).tmps) = true then _ else _) at h
    rw [e3, if_pos hwi] at h
    have fin : ∀ (ds : List Deferred) u w2, Kb w w2 → K ((({ a with defers := ds } : Act).put p.dst v).put i.dst u) w2 → wpOne S P ops p K (({ a with defers := ds } : Act).put i.dst u) w2 := fun ds u w2 hb hk => by
      obtain ⟨g1, g2, g3, g4⟩ := near_same h3 hsp (⟨ds, u, rfl⟩ : Near a i (({ a with defers := ds } : Act).put i.dst u))
      unfold wpOne
      rw [g3, if_pos hwp]
      unfold core
      rw [lp, lk]
      simp only [Bool.false_eq_true, if_false]
      rw [g2 w2]
      refine ⟨?_, ?_⟩
      · obtain ⟨dst, op, type, pos, after, guard⟩ := p
        cases op <;> simp only [isLoad] at hl <;> try contradiction
        obtain ⟨ad, c, hx, hc⟩ := hsd
        exact ⟨ad, c, hx, cell_kb hb hc⟩
      · unfold Oper.wp
        rw [g1, r2 w2 hb]
        simp only [Oper.upon]
        rw [← Act.put_comm _ v u h2]; exact hk
    have kr : Kb w w := fun _ _ => rfl
    unfold wpOne
    rw [if_pos hwi]
    unfold core at h ⊢
    rcases hi with (hi | hi) | hi
    · obtain ⟨ip, ik⟩ := load_no (S := S) hi
      rw [ip, ik] at h ⊢
      simp only [Bool.false_eq_true, if_false] at h ⊢
      rw [e2 w] at h
      obtain ⟨hsi2, h⟩ := h
      refine ⟨hsi2, ?_⟩
      unfold Oper.wp at h ⊢
      rw [e1] at h
      rcases isLoad_spec (P := P) hi hsi2 with ⟨u, q1, q2⟩ | ⟨x, w', e⟩
      · rw [q1] at h ⊢
        simp only [Oper.upon] at h ⊢
        exact fin a.defers u w kr h
      · rw [e] at h; cases x <;> simp only [Oper.upon] at h <;> exact h.elim
    · obtain ⟨ip, ik⟩ := new_no (S := S) hi
      rw [ip, ik] at h ⊢
      simp only [Bool.false_eq_true, if_false] at h ⊢
      rw [e2 w] at h
      obtain ⟨hsi2, h⟩ := h
      refine ⟨hsi2, ?_⟩
      unfold Oper.wp at h ⊢
      rw [e1] at h
      rcases isNew_spec (P := P) (ρ := a.eval) w hi with ⟨u, b, q1⟩ | ⟨x, w', e⟩
      · rw [q1] at h ⊢
        simp only [Oper.upon] at h ⊢
        exact fin a.defers u (w.alloc b) (kb_alloc w b) h
      · rw [e] at h; cases x <;> simp only [Oper.upon] at h <;> exact h.elim
    · obtain ⟨ik, ip⟩ := hi
      simp only [Bool.not_eq_true'] at ip
      rw [ip, ik] at h ⊢
      simp only [Bool.false_eq_true, if_false, if_true] at h ⊢
      exact wp_past e1 (fun ds u w' hx => ⟨hx.1, fin ds u w' hx.1 hx.2⟩) h
end

/-! ### The order of the text -/
def binds (e : Edge) : Bool := Region.binds .any e
def mask (acc : List Nat) (es : List Edge) : Nat := es.foldl (fun s e => if binds e then s ||| 2 ^ e.on ||| acc.getD e.on 0 else s) 0
def clos : List Oper → List Nat → List Nat
  | [], acc => acc
  | o :: r, acc => clos r (acc ++ [mask acc o.after.toList])
/-- The check, once a region. -/
def textB (S : PS) (P : Program) (l : List Oper) : Bool :=
  Region.noSelect l.toArray && l.zipIdx.all (fun (o, i) => o.after.all fun e => !binds e || decide (e.on < i)) &&
  (let c := clos l []
   l.zipIdx.all fun (o, i) => (l.take i).zipIdx.all fun (p, j) => (c.getD i 0).testBit j || (p.apart l.toArray o && allowed S P p o))

/-- What is done is closed: each one's edges are done. -/
def Closed (l : List Oper) (L : Nat → Bool) : Prop := ∀ (i : Nat) (o : Oper), l[i]? = some o → L i = true → ∀ e ∈ o.after, binds e = true → L e.on = true
def Deps (l : List Oper) (L : Nat → Bool) (i : Nat) : Prop := ∀ o : Oper, l[i]? = some o → ∀ e ∈ o.after, binds e = true → L e.on = true
def Good (l : List Oper) (acc : List Nat) : Prop := ∀ (i m : Nat), acc[i]? = some m → ∀ j, m.testBit j = true → ∀ L, Closed l L → Deps l L i → L j = true

theorem mask_spec (acc : List Nat) (es : List Edge) (j : Nat) : ∀ s : Nat, (es.foldl (fun s e => if binds e then s ||| 2 ^ e.on ||| acc.getD e.on 0 else s) s).testBit j = true →
    s.testBit j = true ∨ ∃ e ∈ es, binds e = true ∧ (e.on = j ∨ (acc.getD e.on 0).testBit j = true) := by
  induction es with
  | nil => intro s h; exact .inl h
  | cons e r ih =>
    intro s h
    rw [List.foldl_cons] at h
    rcases ih _ h with h | ⟨e', he, hb⟩
    · split at h
      · rename_i hb
        rw [Nat.testBit_or, Nat.testBit_or, Nat.testBit_two_pow] at h
        simp only [Bool.or_eq_true, decide_eq_true_eq] at h
        rcases h with (h | h) | h
        · exact .inl h
        · exact .inr ⟨e, by simp, hb, .inl h⟩
        · exact .inr ⟨e, by simp, hb, .inr h⟩
      · exact .inl h
    · exact .inr ⟨e', by simp [he], hb⟩
theorem clos_good {l : List Oper} (r : List Oper) : ∀ (k : Nat) (acc : List Nat), acc.length = k → (∀ j, r[j]? = l[k + j]?) → Good l acc → Good l (clos r acc) := by
  induction r with
  | nil => intro k acc _ _ hg; exact hg
  | cons o r ih =>
    intro k acc hk hr hg
    refine ih (k + 1) _ (by simp [hk]) (fun j => by have := hr (j + 1); simpa [Nat.add_assoc, Nat.add_comm 1 j] using this) ?_
    intro i m hm j hj L hL hd
    rcases Nat.lt_or_ge i acc.length with h | h
    · rw [List.getElem?_append_left h] at hm
      exact hg i m hm j hj L hL hd
    · rw [List.getElem?_append_right h] at hm
      have hi : i = k := by
        rcases Nat.lt_or_ge 0 (i - acc.length) with h' | h'
        · rw [List.getElem?_eq_none (by simp; omega)] at hm; cases hm
        · omega
      subst hi
      rw [hk, Nat.sub_self] at hm
      simp only [List.getElem?_cons_zero, Option.some.injEq] at hm
      subst hm
      have ho : l[i]? = some o := by have := hr 0; simpa using this.symm
      rcases mask_spec acc o.after.toList j 0 hj with h0 | ⟨e, he, hb, hj⟩
      · simp at h0
      · have hLe := hd o ho e (by simpa using he) hb
        rcases hj with rfl | hj
        · exact hLe
        · cases hq : acc[e.on]? with
          | none => rw [List.getD_eq_getElem?_getD, hq] at hj; simp at hj
          | some m =>
            rw [List.getD_eq_getElem?_getD, hq] at hj
            exact hg e.on m hq j hj L hL fun o' ho' => hL e.on o' ho' hLe

/-- What is left, in the text's order. -/
def left (l : List Oper) (L : Nat → Bool) : List Nat := (List.range l.length).filter fun i => !L i
def seqT (S : PS) (P : Program) (l : List Oper) (Q : Act → World → Prop) : List Nat → Act → World → Prop
  | [], a, w => Q a w
  | i :: r, a, w => wpOne S P l.toArray (l.getD i default) (seqT S P l Q r) a w
theorem seqT_of_wpT {S : PS} {P : Program} {l : List Oper} {Q : Act → World → Prop} (r : List Oper) : ∀ (k : Nat) (a : Act) (w : World), (∀ j, r[j]? = l[k + j]?) → wpT S P l.toArray Q r a w → seqT S P l Q (List.range' k r.length) a w := by
  induction r with
  | nil => intro k a w _ h; exact h
  | cons o r ih =>
    intro k a w hr h
    have ho : l.getD k default = o := by have := hr 0; simp only [List.getElem?_cons_zero, Nat.add_zero] at this; rw [List.getD_eq_getElem?_getD, ← this]; rfl
    rw [List.length_cons, List.range'_succ]
    unfold seqT
    rw [ho]
    exact wpOne_mono (fun a w h => ih (k + 1) a w (fun j => by have := hr (j + 1); simpa [Nat.add_assoc, Nat.add_comm 1 j] using this) h) h
theorem seqT_front {S : PS} {P : Program} {l : List Oper} {Q : Act → World → Prop} {i : Nat} {post : List Nat} (pre : List Nat)
    (hs : ∀ p ∈ pre, ∀ K a w, wpOne S P l.toArray (l.getD p default) (wpOne S P l.toArray (l.getD i default) K) a w → wpOne S P l.toArray (l.getD i default) (wpOne S P l.toArray (l.getD p default) K) a w) :
    ∀ (a : Act) (w : World), seqT S P l Q (pre ++ i :: post) a w → wpOne S P l.toArray (l.getD i default) (seqT S P l Q (pre ++ post)) a w := by
  induction pre with
  | nil => intro a w h; exact h
  | cons p pre ih =>
    intro a w h
    rw [List.cons_append] at h
    unfold seqT at h
    have h2 := wpOne_mono (fun a w hh => ih (fun q hq => hs q (by simp [hq])) a w hh) h
    have h3 := hs p (by simp) _ a w h2
    exact wpOne_mono (fun a w hh => by rw [List.cons_append]; unfold seqT; exact hh) h3

theorem noQ_wp {P : Program} {o : Oper} {a : Act} {w : World} {K : Act → World → Prop} {Q : Exit → Act → World → Prop} (h : o.wp P a w K noQ) : o.wp P a w K Q := by
  unfold Oper.wp at *
  generalize (execOp a.eval o).run P w = r at *
  cases r with
  | ok n w' =>
    cases n <;> simp only [Oper.upon] at h ⊢ <;> first
      | exact h
      | exact Calls.mono h fun e w'' he => by cases e <;> first | exact he | exact he.elim | exact he.elim fun _ h => h.elim fun _ h => h.elim
  | halt x w' => cases x <;> simp only [Oper.upon] at h ⊢ <;> exact h.elim

theorem getD_replicate (n j : Nat) : (Array.replicate n false).getD j false = false := by
  rw [Array.getD_eq_getD_getElem?, Array.getElem?_replicate]; split <;> rfl

theorem wpAny_text {S : PS} {P : Program} {l : List Oper} {Q : Exit → Act → World → Prop} (hB : textB S P l = true) : ∀ (fuel : Nat) (listed : Array Bool) (a : Act) (w : World), listed.size = l.length →
    Closed l (fun i => listed.getD i false) → (left l fun i => listed.getD i false).length ≤ fuel → seqT S P l (Q .normal) (left l fun i => listed.getD i false) a w → wpAny P .any l.toArray Q fuel listed a w := by
  simp only [textB, Bool.and_eq_true] at hB
  obtain ⟨⟨hsel, hback⟩, hpair⟩ := hB
  have hsel' := Region.noSelect_spec hsel
  have hg : Good l (clos l []) := clos_good l 0 [] rfl (fun j => by simp) (fun i m h => by simp at h)
  have back : ∀ (i : Nat) (o : Oper), l[i]? = some o → ∀ e ∈ o.after, binds e = true → e.on < i := fun i o ho e he hb => by
    have := List.all_eq_true.1 hback (o, i) (by rw [List.mem_zipIdx_iff_getElem?]; exact ho)
    have := Array.all_eq_true_iff_forall_mem.1 this e he
    simpa [hb] using this
  intro fuel
  induction fuel with
  | zero =>
    intro listed a w hsz hcl hlen hq
    have hnil : left l (fun i => listed.getD i false) = [] := List.eq_nil_of_length_eq_zero (by omega)
    rw [hnil] at hq
    refine ⟨?_, hq⟩
    refine List.eq_nil_iff_forall_not_mem.2 fun j hj => ?_
    obtain ⟨hj0, o, ho, _⟩ := mem_ready.1 hj
    have hlt : j < l.length := by have := (Array.getElem?_eq_some_iff.1 ho).1; simpa using this
    have : j ∈ left l (fun i => listed.getD i false) := List.mem_filter.2 ⟨List.mem_range.2 hlt, by
      rw [Array.getD_eq_getD_getElem?, Array.getElem?_eq_getElem (by omega)] at hj0
      show (!listed.getD j false) = true
      rw [Array.getD_eq_getD_getElem?, Array.getElem?_eq_getElem (by omega)]
      simpa using hj0⟩
    rw [hnil] at this
    cases this
  | succ fuel ih =>
    intro listed a w hsz hcl hlen hq
    have gd : ∀ j, j < l.length → listed.getD j true = listed.getD j false := fun j hj => by
      rw [Array.getD_eq_getD_getElem?, Array.getD_eq_getD_getElem?, Array.getElem?_eq_getElem (by omega)]; rfl
    refine ⟨fun hr => ?_, fun i hi => ?_⟩
    · cases hle : left l (fun i => listed.getD i false) with
      | nil => rw [hle] at hq; exact hq
      | cons i rest =>
        exfalso
        have hmem : i ∈ left l (fun i => listed.getD i false) := by rw [hle]; simp
        have hm := List.mem_filter.1 hmem
        have hlt := List.mem_range.1 hm.1
        have hun : listed.getD i false = false := by simpa using hm.2
        have : i ∈ Region.ready .any l.toArray listed := by
          refine mem_ready.2 ⟨by rw [gd i hlt]; exact hun, l[i], by simp [hlt], fun e he hb => ?_⟩
          have hon := back i l[i] (by simp [hlt]) e he hb
          cases hL : listed.getD e.on false
          · exfalso
            have hme : e.on ∈ left l (fun i => listed.getD i false) := List.mem_filter.2 ⟨List.mem_range.2 (by omega), by simp only [hL]; rfl⟩
            have hp : (left l (fun i => listed.getD i false)).Pairwise (· < ·) := List.Pairwise.filter _ List.pairwise_lt_range
            rw [hle] at hme hp
            rcases List.mem_cons.1 hme with h | h
            · omega
            · have := (List.pairwise_cons.1 hp).1 _ h; omega
          · rfl
        rw [hr] at this
        cases this
    · obtain ⟨hj0, o, ho, hdeps⟩ := mem_ready.1 hi
      have hlt : i < l.length := by have := (Array.getElem?_eq_some_iff.1 ho).1; simpa using this
      have ho' : l[i]? = some o := by simpa using ho
      have hgo : l.getD i default = o := by rw [List.getD_eq_getElem?_getD, ho']; rfl
      rw [gd i hlt] at hj0
      have hmem : i ∈ left l (fun i => listed.getD i false) := List.mem_filter.2 ⟨List.mem_range.2 hlt, by simp only [hj0]; rfl⟩
      obtain ⟨pre, post, hsplit⟩ := List.append_of_mem hmem
      have hp : (left l (fun i => listed.getD i false)).Pairwise (· < ·) := List.Pairwise.filter _ List.pairwise_lt_range
      rw [hsplit] at hq hp
      have hpre : ∀ p ∈ pre, p < i := fun p hpp => (List.pairwise_append.1 hp).2.2 p hpp i (by simp)
      have hpost : ∀ p ∈ post, i < p := fun p hpp => (List.pairwise_cons.1 (List.pairwise_append.1 hp).2.1).1 p hpp
      have hdepsL : Deps l (fun i => listed.getD i false) i := fun o2 ho2 e he hb => by
        rw [ho'] at ho2; injection ho2 with ho2; subst ho2; exact hdeps e he hb
      have hfront := seqT_front (S := S) (P := P) (l := l) (Q := Q .normal) (i := i) (post := post) pre (fun p hpp K a w hh => by
        have hpi := hpre p hpp
        have hpl : p < l.length := by omega
        have hpun : listed.getD p false = false := by
          have : p ∈ left l (fun i => listed.getD i false) := by rw [hsplit]; simp [hpp]
          simpa using (List.mem_filter.1 this).2
        have hgp : l.getD p default = l[p] := by rw [List.getD_eq_getElem?_getD, List.getElem?_eq_getElem hpl]; rfl
        have h1 := List.all_eq_true.1 hpair (o, i) (by rw [List.mem_zipIdx_iff_getElem?]; exact ho')
        have h2 := List.all_eq_true.1 h1 (l[p], p) (by rw [List.mem_zipIdx_iff_getElem?]; simp [List.getElem?_take, hpi, hpl])
        simp only [Bool.or_eq_true, Bool.and_eq_true] at h2
        rcases h2 with h2 | ⟨h2, h3⟩
        · exfalso
          cases hc : (clos l [])[i]? with
          | none => rw [List.getD_eq_getElem?_getD, hc] at h2; simp at h2
          | some m =>
            rw [List.getD_eq_getElem?_getD, hc] at h2
            have := hg i m hc p h2 _ hcl hdepsL
            simp only [hpun] at this
            cases this
        · rw [hgp, hgo] at hh ⊢
          exact swap h2 (fun cs b => hsel' p l[p] cs b (by simp [hpl])) (fun cs b => hsel' i o cs b ho) h3 hh) a w hq
      rw [hgo] at hfront
      have hsz' : (listed.setIfInBounds i true).size = l.length := by simpa using hsz
      have hleft : left l (fun j => (listed.setIfInBounds i true).getD j false) = pre ++ post := by
        have e1 : left l (fun j => (listed.setIfInBounds i true).getD j false) = (left l (fun j => listed.getD j false)).filter (fun j => j != i) := by
          unfold left
          rw [List.filter_filter]
          refine List.filter_congr fun j hj => ?_
          have hjl := List.mem_range.1 hj
          by_cases hji : j = i
          · subst hji
            simp [hsz, hlt]
          · show (!(listed.setIfInBounds i true).getD j false) = (j != i && !listed.getD j false)
            rw [getD_set_ne false (Ne.symm hji)]
            simp [hji]
        rw [e1, hsplit, List.filter_append, List.filter_cons]
        rw [List.filter_eq_self.2 (fun p hpp => by have := hpre p hpp; simp; omega), List.filter_eq_self.2 (fun p hpp => by have := hpost p hpp; simp; omega)]
        simp
      have hcl' : Closed l (fun j => (listed.setIfInBounds i true).getD j false) := by
        intro j o2 ho2 hL e he hb
        show (listed.setIfInBounds i true).getD e.on false = true
        by_cases hji : j = i
        · subst hji
          exact getD_set_true (hdepsL o2 ho2 e he hb)
        · have hL' : (listed.setIfInBounds i true).getD j false = true := hL
          rw [getD_set_ne false (Ne.symm hji)] at hL'
          exact getD_set_true (hcl j o2 ho2 hL' e he hb)
      have hlen' : (left l (fun j => (listed.setIfInBounds i true).getD j false)).length ≤ fuel := by
        rw [hleft]
        rw [hsplit] at hlen
        simp at hlen ⊢
        omega
      unfold wpOp
      simp only [ho]
      unfold wpOne at hfront
      split
      · rename_i hw
        rw [if_pos hw] at hfront
        exact .inl (noQ_wp (wp_near (fun a' w' _ hk => ih _ a' w' hsz' hcl' hlen' (by rw [hleft]; exact hk)) (core_wp hfront)))
      · rename_i hw
        rw [if_neg hw] at hfront
        exact ih _ _ w hsz' hcl' hlen' (by rw [hleft]; exact hfront)

/-- A region whose order is drawn, in the order of its text. -/
theorem wp_region_text (S : PS) {P : Program} {id : Nat} {l : List Oper} {Q : Exit → Act → World → Prop} {a : Act} {w : World} (hm : P.follows .mixedOrders = true) (hB : textB S P l = true)
    (h : wpT S P l.toArray (Q .normal) l a w.drew) : (Code.region id l.toArray true).wp P Q a w := by
  refine wp_region_any hm (wpAny_text hB _ _ a _ (by simp) ?_ ?_ ?_)
  · intro i o _ hL
    have h0 : (Array.replicate l.toArray.size false).getD i false = true := hL
    rw [getD_replicate] at h0
    cases h0
  · refine Nat.le_trans (List.length_filter_le _ _) ?_
    simp
  · have e : left l (fun i => (Array.replicate l.toArray.size false).getD i false) = List.range' 0 l.length := by
      unfold left
      rw [List.filter_eq_self.2 (fun j _ => by show (!(Array.replicate l.toArray.size false).getD j false) = true; rw [getD_replicate]; rfl), List.range_eq_range']
    rw [e]
    exact seqT_of_wpT l 0 a _ (fun j => by simp) h

/-! ### Steps -/
section
variable {S : PS} {P : Program} {ops : Array Oper} {rest : List Oper} {a : Act} {w : World} {o : Oper} {Q : Act → World → Prop}
theorem wpT_plain (hg : o.guard = none) (hp : (isPure S o || isKeep S o) = false) (hs : Side w a.eval o) (h : ∀ K : Act → World → Prop, (∀ a w, wpT S P ops Q rest a w → K a w) → o.wp P a w K noQ) : wpT S P ops Q (o :: rest) a w := by
  show wpOne S P ops o (wpT S P ops Q rest) a w
  simp only [Bool.or_eq_false_iff] at hp
  unfold wpOne core
  rw [if_pos (by simp [Region.wanted, hg]), hp.1, hp.2]
  simp only [Bool.false_eq_true, if_false]
  exact ⟨hs, h _ fun _ _ h => h⟩
theorem wpT_no (hg : Region.wanted o (yielded ops a.tmps) = false) (h : wpT S P ops Q rest (a.put o.dst undef) w) : wpT S P ops Q (o :: rest) a w := by
  show wpOne S P ops o (wpT S P ops Q rest) a w
  unfold wpOne
  rw [hg]
  exact h
theorem wpT_yes (hg : Region.wanted o (yielded ops a.tmps) = true) (hp : (isPure S o || isKeep S o) = false) (hs : Side w a.eval o) (h : ∀ K : Act → World → Prop, (∀ a w, wpT S P ops Q rest a w → K a w) → o.wp P a w K noQ) : wpT S P ops Q (o :: rest) a w := by
  show wpOne S P ops o (wpT S P ops Q rest) a w
  simp only [Bool.or_eq_false_iff] at hp
  unfold wpOne core
  rw [if_pos hg, hp.1, hp.2]
  simp only [Bool.false_eq_true, if_false]
  exact ⟨hs, h _ fun _ _ h => h⟩
/-- A call that touches no memory. -/
theorem wpT_pure {dst : Option Tmp} {n : Nat} {as : Array Operand} {ts : Array TypeId} {ty : TypeId} {pos : String} {af : Array Edge} {g : Option (Nat × Bool)}
    (hg : Region.wanted ⟨dst, .call ⟨.value (.func n), as, ts⟩, ty, pos, af, g⟩ (yielded ops a.tmps) = true) (hp : S.pu n = true)
    (hen : ∀ args w, (callFunc n args).run P w = .ok (.enter n args) w) (args : Array Value) (v : Value) (ha : as.map a.eval = args) (hv : S.sp n args = v) (hc : ∀ w', Calls P n args w' fun e w'' => e = .returned v ∧ w' = w'')
    (h : wpT S P ops Q rest (a.put dst v) w) : wpT S P ops Q (⟨dst, .call ⟨.value (.func n), as, ts⟩, ty, pos, af, g⟩ :: rest) a w := by
  show wpOne S P ops _ (wpT S P ops Q rest) a w
  unfold wpOne core
  rw [if_pos hg, if_pos (by show (some (n, as)).any (fun x => S.pu x.1) = true; simpa using hp)]
  have e : pv S ⟨dst, .call ⟨.value (.func n), as, ts⟩, ty, pos, af, g⟩ a.eval = v := by
    show S.sp n (as.map a.eval) = v
    rw [ha, hv]
  rw [e]
  refine ⟨fun w' => ⟨n, args, ?_, hc w'⟩, h⟩
  rw [← ha, ← hen]
  simp [execOp, resolve, invoke, Deferred.ofValue, Act.eval]
/-- A call that only makes memory. -/
theorem wpT_keep {n : Nat} (hg : Region.wanted o (yielded ops a.tmps) = true) (hp : isPure S o = false) (hk : isKeep S o = true) (h : ∀ K : Act → World → Prop, (∀ a w', Kb w w' → wpT S P ops Q rest a w' → K a w') → o.wp P a w K noQ) : wpT S P ops Q (o :: rest) a w := by
  show wpOne S P ops o (wpT S P ops Q rest) a w
  unfold wpOne core
  rw [if_pos hg, hp, hk]
  simp only [Bool.false_eq_true, if_false, if_true]
  exact h _ fun _ _ h1 h2 => ⟨h1, h2⟩
theorem wpT_nil (h : Q a w) : wpT S P ops Q [] a w := h
end
end Go.Proofs.Ytncnkfjddolabaa.Dq
