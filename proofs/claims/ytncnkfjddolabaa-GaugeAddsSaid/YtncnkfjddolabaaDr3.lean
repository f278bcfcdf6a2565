/- A region whose order is drawn is walked in the order of its text: 'wp_region_text'. -/
import Derived.Test.YtncnkfjddolabaaDr2
set_option linter.unusedSimpArgs false
set_option linter.unusedVariables false
namespace Go.Proofs.Ytncnkfjddolabaa.Dr
open Go

def noQ : Exit → Act → World → Prop := fun _ _ _ => False

section
variable {P : Program} {ops : Array Oper} {K K' : Act → World → Prop} {a : Act} {w : World} {p i o : Oper}

def wpOne (P : Program) (ops : Array Oper) (o : Oper) (K : Act → World → Prop) (a : Act) (w : World) : Prop :=
  if Region.wanted o (yielded ops a.tmps) = true then Side w a.eval o ∧ o.wp P a w K noQ else K (a.put o.dst undef) w
def wpT (P : Program) (ops : Array Oper) (Q : Act → World → Prop) : List Oper → Act → World → Prop
  | [], a, w => Q a w
  | o :: r, a, w => wpOne P ops o (wpT P ops Q r) a w

/-- Where an operation leaves the frame. -/
def Near (a : Act) (o : Oper) (a' : Act) : Prop := ∃ ds v, a' = ({ a with defers := ds } : Act).put o.dst v

theorem Oper.wp_near (h : ∀ a' w', Near a o a' → K a' w' → K' a' w') (hh : o.wp P a w K noQ) : o.wp P a w K' noQ := by
  unfold Oper.wp at *
  generalize (execOp a.eval o).run P w = r at *
  cases r with
  | ok n w' =>
    cases n <;> simp only [Oper.upon] at hh ⊢
    case value v => exact h _ _ ⟨a.defers, v, rfl⟩ hh
    case skip => exact h _ _ ⟨a.defers, undef, rfl⟩ hh
    case defer d => exact h _ _ ⟨_, undef, rfl⟩ hh
    case enter f args => exact Calls.mono hh fun e w'' he => by cases e <;> first | exact h _ _ ⟨a.defers, _, rfl⟩ he | exact he
    case row r args => exact Rows.mono hh fun v w'' he => h _ _ ⟨a.defers, v, rfl⟩ he
  | halt x w' => cases x <;> simp only [Oper.upon] at hh ⊢ <;> exact hh
theorem wpOne_near (h : ∀ a' w', Near a o a' → K a' w' → K' a' w') (hh : wpOne P ops o K a w) : wpOne P ops o K' a w := by
  unfold wpOne at *
  split at hh
  · rename_i hw; rw [if_pos hw]; exact ⟨hh.1, Oper.wp_near h hh.2⟩
  · rename_i hw; rw [if_neg hw]; exact h _ _ ⟨a.defers, _, rfl⟩ hh
theorem wpOne_mono (h : ∀ a w, K a w → K' a w) (hh : wpOne P ops o K a w) : wpOne P ops o K' a w := wpOne_near (fun a w _ => h a w) hh
/-- The walk goes on somewhere. -/
theorem wpOne_some (hh : wpOne P ops o K a w) : ∃ a' w', Near a o a' ∧ K a' w' := by
  unfold wpOne at hh
  split at hh
  · replace hh := hh.2
    unfold Oper.wp at hh
    generalize (execOp a.eval o).run P w = r at *
    cases r with
    | ok n w' =>
      cases n <;> simp only [Oper.upon] at hh
      case value v => exact ⟨_, _, ⟨a.defers, v, rfl⟩, hh⟩
      case skip => exact ⟨_, _, ⟨a.defers, undef, rfl⟩, hh⟩
      case defer d => exact ⟨_, _, ⟨_, undef, rfl⟩, hh⟩
      case enter f args =>
        obtain ⟨e, w'', fr, hR, _⟩ := hh []
        cases e with
        | returned v => exact ⟨_, _, ⟨a.defers, v, rfl⟩, hR⟩
        | panicked c => exact hR.elim
        | outgrown => exact hR.elim fun _ h => h.elim fun _ h => h.elim
      case row r args =>
        obtain ⟨v, w'', hR, _⟩ := hh default []
        exact ⟨_, _, ⟨a.defers, v, rfl⟩, hR⟩
    | halt x w' => cases x <;> simp only [Oper.upon] at hh <;> exact hh.elim
  · exact ⟨_, _, ⟨a.defers, _, rfl⟩, hh⟩

theorem Side_congr {ρ ρ' : Operand → Value} (h : ∀ x ∈ o.op.operands, ρ x = ρ' x) : Side w ρ o = Side w ρ' o := by
  obtain ⟨dst, op, type, pos, after, guard⟩ := o
  unfold Side
  cases op <;> dsimp only <;> simp only [Op.operands] at h
  case binOp op t x y yt => rw [h x (by simp), h y (by simp)]
  case convert s d x => rw [h x (by simp)]
  case nilCheck x => rw [h x (by simp)]
  case load t x => rw [h x (by simp)]
theorem looks {d : Option Tmp} (h : ∀ t, d = some t → t ∉ o.looksAt ops) (v : Value) : ∀ x ∈ o.op.operands, (a.put d v).eval x = a.eval x := fun x hx =>
  Act.eval_put fun t ht hxt => h t ht (by
    subst hxt
    exact List.mem_append_left _ (List.mem_filterMap.2 ⟨.tmp t, by simpa using hx, rfl⟩))

/-- What an operation yields at a frame, whatever the world. -/
def FreeAct (P : Program) (ops : Array Oper) (o : Oper) (v : Value) (a : Act) : Prop :=
  (Region.wanted o (yielded ops a.tmps) = true ∧ (∀ w, Side w a.eval o) ∧ ∀ w, (execOp a.eval o).run P w = .ok (.value v) w) ∨ (Region.wanted o (yielded ops a.tmps) = false ∧ v = undef)
theorem FreeAct.wpOne {v : Value} (h : FreeAct P ops o v a) (hk : K (a.put o.dst v) w) : wpOne P ops o K a w := by
  unfold Dr.wpOne
  rcases h with ⟨hw, hs, hr⟩ | ⟨hw, rfl⟩
  · rw [if_pos hw]; exact ⟨hs w, by simp only [Oper.wp, hr w, Oper.upon]; exact hk⟩
  · rw [hw]; simpa using hk
theorem FreeAct.of {v : Value} (h : FreeAct P ops o v a) (hk : Dr.wpOne P ops o K a w) : K (a.put o.dst v) w := by
  unfold Dr.wpOne at hk
  rcases h with ⟨hw, hs, hr⟩ | ⟨hw, rfl⟩
  · rw [if_pos hw] at hk
    have := hk.2
    simp only [Oper.wp, hr w, Oper.upon] at this
    exact this
  · rw [hw] at hk; simpa using hk
theorem FreeAct.congr {v : Value} {a' : Act} (he : execOp a'.eval o = execOp a.eval o) (hs : ∀ w, Side w a'.eval o = Side w a.eval o) (hw : Region.wanted o (yielded ops a'.tmps) = Region.wanted o (yielded ops a.tmps)) :
    FreeAct P ops o v a' ↔ FreeAct P ops o v a := by unfold FreeAct; simp only [he, hs, hw]
theorem near_same (hi : ∀ t, p.dst = some t → t ∉ i.looksAt ops) (hsi : ∀ cs b, i.op ≠ .select cs b) {a' : Act} (hn : Near a p a') :
    execOp a'.eval i = execOp a.eval i ∧ (∀ w, Side w a'.eval i = Side w a.eval i) ∧ Region.wanted i (yielded ops a'.tmps) = Region.wanted i (yielded ops a.tmps) := by
  obtain ⟨ds, v, rfl⟩ := hn
  refine ⟨(execOp_put i hsi ({ a with defers := ds } : Act) p.dst v hi).trans rfl, fun w => ?_, (wanted_put i ({ a with defers := ds } : Act) p.dst v hi).trans rfl⟩
  exact (Side_congr (looks hi v)).trans rfl

theorem side_all {ρ : Operand → Value} (hf : isFree P o = true) (h : Side w ρ o) (w' : World) : Side w' ρ o := by
  obtain ⟨dst, op, type, pos, after, guard⟩ := o
  unfold isFree at hf
  unfold Side at *
  cases op <;> dsimp only at * <;> first | exact h | contradiction
theorem free_act (hf : isFree P o = true) (h : wpOne P ops o K a w) : ∃ v, FreeAct P ops o v a := by
  unfold wpOne at h
  split at h
  · rename_i hw
    rcases isFree_spec hf h.1 with ⟨v, hv⟩ | hh
    · exact ⟨v, .inl ⟨hw, side_all hf h.1, hv⟩⟩
    · obtain ⟨x, w', e⟩ := hh w
      have := h.2
      unfold Oper.wp at this
      rw [e] at this
      cases x <;> simp only [Oper.upon] at this <;> exact this.elim
  · rename_i hw; exact ⟨undef, .inr ⟨by simpa using hw, rfl⟩⟩

/-- One that yields, moved behind another one. -/
theorem past {v : Value} (hap : p.apart ops i = true) (hsp : ∀ cs b, p.op ≠ .select cs b) (hsi : ∀ cs b, i.op ≠ .select cs b) (hy : FreeAct P ops p v a) (h : wpOne P ops i K (a.put p.dst v) w) :
    wpOne P ops i (wpOne P ops p K) a w := by
  obtain ⟨h1, h2, h3⟩ := Oper.apart_spec hap
  have hn : Near a p (a.put p.dst v) := ⟨a.defers, v, rfl⟩
  obtain ⟨e1, e2, e3⟩ := near_same h1 hsi hn
  have fin : ∀ (ds : List Deferred) u w', K ((({ a with defers := ds } : Act).put p.dst v).put i.dst u) w' → wpOne P ops p K (({ a with defers := ds } : Act).put i.dst u) w' := fun ds u w' hk => by
    obtain ⟨g1, g2, g3⟩ := near_same h3 hsp (⟨ds, u, rfl⟩ : Near a i (({ a with defers := ds } : Act).put i.dst u))
    refine ((FreeAct.congr g1 g2 g3).2 hy).wpOne ?_
    rw [← Act.put_comm _ v u h2]; exact hk
  unfold wpOne at h
  unfold wpOne
  rw [e3] at h
  split
  · rename_i hw
    rw [if_pos hw, e2 w] at h
    refine ⟨h.1, ?_⟩
    have hh := h.2
    unfold Oper.wp at *
    rw [e1] at hh
    generalize (execOp a.eval i).run P w = r at *
    cases r with
    | ok n w' =>
      cases n <;> simp only [Oper.upon] at hh ⊢
      case value u => exact fin a.defers u w' hh
      case skip => exact fin a.defers _ w' hh
      case defer d => refine fin (d :: a.defers) _ w' ?_; rw [← Act.put_defers]; exact hh
      case enter f args => exact Calls.mono hh fun e w'' he => by cases e <;> first | exact fin a.defers _ w'' he | exact he
      case row r args => exact Rows.mono hh fun u w'' he => fin a.defers u w'' he
    | halt x w' => cases x <;> simp only [Oper.upon] at hh ⊢ <;> exact hh.elim
  · rename_i hw
    rw [if_neg hw] at h
    exact fin a.defers _ w h
/-- One that yields, moved ahead of another one. -/
theorem ahead {u : Value} (hap : p.apart ops i = true) (hsp : ∀ cs b, p.op ≠ .select cs b) (h : wpOne P ops p (fun a' w' => K (a'.put i.dst u) w') a w) : wpOne P ops p K (a.put i.dst u) w := by
  obtain ⟨h1, h2, h3⟩ := Oper.apart_spec hap
  obtain ⟨e1, e2, e3⟩ := near_same h3 hsp (⟨a.defers, u, rfl⟩ : Near a i (a.put i.dst u))
  have fin : ∀ (ds : List Deferred) v w', K ((({ a with defers := ds } : Act).put p.dst v).put i.dst u) w' → K ((({ a with defers := ds } : Act).put i.dst u).put p.dst v) w' := fun ds v w' hk => by
    rw [← Act.put_comm _ v u h2]; exact hk
  unfold wpOne at *
  rw [e3]
  split
  · rename_i hw
    rw [if_pos hw] at h
    rw [e2 w]
    refine ⟨h.1, ?_⟩
    have hh := h.2
    unfold Oper.wp at *
    rw [e1]
    generalize (execOp a.eval p).run P w = r at *
    cases r with
    | ok n w' =>
      cases n <;> simp only [Oper.upon] at hh ⊢
      case value v => exact fin a.defers v w' hh
      case skip => exact fin a.defers _ w' hh
      case defer d => have := fin (d :: a.defers) _ w' hh; rw [← Act.put_defers] at this; exact this
      case enter f args => exact Calls.mono hh fun e w'' he => by cases e <;> first | exact fin a.defers _ w'' he | exact he
      case row r args => exact Rows.mono hh fun v w'' he => fin a.defers v w'' he
    | halt x w' => cases x <;> simp only [Oper.upon] at hh ⊢ <;> exact hh.elim
  · rename_i hw
    rw [if_neg hw] at h
    exact fin a.defers _ w h

def allowed (P : Program) (p i : Oper) : Bool := isFree P p || isFree P i || (isLoad p && (isLoad i || isNew i))

theorem swap_free_left (hap : p.apart ops i = true) (hsp : ∀ cs b, p.op ≠ .select cs b) (hsi : ∀ cs b, i.op ≠ .select cs b) {v : Value} (hy : FreeAct P ops p v a) (h : wpOne P ops p (wpOne P ops i K) a w) : wpOne P ops i (wpOne P ops p K) a w :=
  past hap hsp hsi hy (hy.of h)
theorem swap_free_right (hap : p.apart ops i = true) (hsp : ∀ cs b, p.op ≠ .select cs b) (hsi : ∀ cs b, i.op ≠ .select cs b) {u : Value} (hy : FreeAct P ops i u a) (h : wpOne P ops p (wpOne P ops i K) a w) : wpOne P ops i (wpOne P ops p K) a w := by
  obtain ⟨h1, h2, h3⟩ := Oper.apart_spec hap
  refine hy.wpOne (ahead hap hsp (wpOne_near (fun a' w' hn hk => ?_) h))
  obtain ⟨g1, g2, g3⟩ := near_same h1 hsi hn
  exact ((FreeAct.congr g1 g2 g3).2 hy).of hk
theorem swap (hap : p.apart ops i = true) (hsp : ∀ cs b, p.op ≠ .select cs b) (hsi : ∀ cs b, i.op ≠ .select cs b) (hal : allowed P p i = true) (h : wpOne P ops p (wpOne P ops i K) a w) :
    wpOne P ops i (wpOne P ops p K) a w := by
  obtain ⟨h1, h2, h3⟩ := Oper.apart_spec hap
  cases hwp : Region.wanted p (yielded ops a.tmps)
  · exact swap_free_left hap hsp hsi (v := undef) (.inr ⟨hwp, rfl⟩) h
  cases hwi : Region.wanted i (yielded ops a.tmps)
  · exact swap_free_right hap hsp hsi (u := undef) (.inr ⟨hwi, rfl⟩) h
  unfold allowed at hal
  simp only [Bool.or_eq_true, Bool.and_eq_true] at hal
  rcases hal with (hf | hf) | ⟨hl, hi⟩
  · obtain ⟨v, hy⟩ := free_act hf h
    exact swap_free_left hap hsp hsi hy h
  · obtain ⟨a', w', hn, hk⟩ := wpOne_some h
    obtain ⟨u, hy⟩ := free_act hf hk
    obtain ⟨g1, g2, g3⟩ := near_same h1 hsi hn
    exact swap_free_right hap hsp hsi ((FreeAct.congr g1 g2 g3).1 hy) h
  · unfold wpOne at h
    rw [if_pos hwp] at h
    obtain ⟨hsd, h⟩ := h
    change p.upon P a (wpOne P ops i K) noQ ((execOp a.eval p).run P w) at h
    rcases isLoad_spec (P := P) hl hsd with ⟨v, r1, r2⟩ | ⟨x, w', e⟩
    case inr => rw [e] at h; cases x <;> simp only [Oper.upon] at h <;> exact h.elim
    rw [r1] at h
    change wpOne P ops i K (a.put p.dst v) w at h
    obtain ⟨e1, e2, e3⟩ := near_same h1 hsi (⟨a.defers, v, rfl⟩ : Near a p (a.put p.dst v))
    change (if Region.wanted i (yielded ops (a.put p.dst v).tmps) = true then _ else _) at h
    rw [e3, if_pos hwi, e2 w] at h
    obtain ⟨hsi2, h⟩ := h
    unfold Oper.wp at h
    rw [e1] at h
    have fin : ∀ u w2, (execOp a.eval p).run P w2 = .ok (.value v) w2 → Side w2 a.eval p → K ((a.put p.dst v).put i.dst u) w2 → wpOne P ops p K (a.put i.dst u) w2 := fun u w2 hr hs hk => by
      obtain ⟨g1, g2, g3⟩ := near_same h3 hsp (⟨a.defers, u, rfl⟩ : Near a i (a.put i.dst u))
      unfold wpOne
      rw [g3, if_pos hwp, g2 w2]
      refine ⟨hs, ?_⟩
      unfold Oper.wp
      rw [g1, hr]
      simp only [Oper.upon]
      rw [← Act.put_comm _ v u h2]; exact hk
    unfold wpOne
    rw [if_pos hwi]
    refine ⟨hsi2, ?_⟩
    unfold Oper.wp
    rcases hi with hi | hi
    · rcases isLoad_spec (P := P) hi hsi2 with ⟨u, q1, q2⟩ | ⟨x, w', e⟩
      · rw [q1] at h ⊢
        simp only [Oper.upon] at h ⊢
        exact fin u w r1 hsd h
      · rw [e] at h; cases x <;> simp only [Oper.upon] at h <;> exact h.elim
    · rcases isNew_spec (P := P) (ρ := a.eval) w hi with ⟨u, b, q1⟩ | ⟨x, w', e⟩
      · rw [q1] at h ⊢
        simp only [Oper.upon] at h ⊢
        refine fin u (w.alloc b) (r2 b) ?_ h
        obtain ⟨dst, op, type, pos, after, guard⟩ := p
        cases op <;> simp only [isLoad] at hl <;> try contradiction
        obtain ⟨ad, c, hx, hc⟩ := hsd
        exact ⟨ad, c, hx, cell_alloc b hc⟩
      · rw [e] at h; cases x <;> simp only [Oper.upon] at h <;> exact h.elim
end

/-! ### The order of the text -/
def binds (e : Edge) : Bool := Region.binds .any e
def mask (acc : List Nat) (es : List Edge) : Nat := es.foldl (fun s e => if binds e then s ||| 2 ^ e.on ||| acc.getD e.on 0 else s) 0
def clos : List Oper → List Nat → List Nat
  | [], acc => acc
  | o :: r, acc => clos r (acc ++ [mask acc o.after.toList])
/-- The check, once a region. -/
def textB (P : Program) (l : List Oper) : Bool :=
  Region.noSelect l.toArray && l.zipIdx.all (fun (o, i) => o.after.all fun e => !binds e || decide (e.on < i)) &&
  (let c := clos l []
   l.zipIdx.all fun (o, i) => (l.take i).zipIdx.all fun (p, j) => (c.getD i 0).testBit j || (p.apart l.toArray o && allowed P p o))

/-- What is done is closed: each one's edges are done. -/
def Closed (l : List Oper) (L : Nat → Bool) : Prop := ∀ (i : Nat) (o : Oper), l[i]? = some o → L i = true → ∀ e ∈ o.after, binds e = true → L e.on = true
def Deps (l : List Oper) (L : Nat → Bool) (i : Nat) : Prop := ∀ o : Oper, l[i]? = some o → ∀ e ∈ o.after, binds e = true → L e.on = true
def Good (l : List Oper) (acc : List Nat) : Prop := ∀ (i m : Nat), acc[i]? = some m → ∀ j, m.testBit j = true → ∀ L, Closed l L → Deps l L i → L j = true

theorem mask_spec (acc : List Nat) (es : List Edge) (j : Nat) : ∀ s : Nat, (es.foldl (fun s e => if binds e then s ||| 2 ^ e.on ||| acc.getD e.on 0 else s) s).testBit j = true →
    s.testBit j = true ∨ ∃ e ∈ es, binds e = true ∧ (e.on = j ∨ (acc.getD e.on 0).testBit j = true) := by
  induction es with
  | nil => intro s h; exact .inl h
  | cons e r ih =>
    intro s h
    rw [List.foldl_cons] at h
    rcases ih _ h with h | ⟨e', he, hb⟩
    · split at h
      · rename_i hb
        rw [Nat.testBit_or, Nat.testBit_or, Nat.testBit_two_pow] at h
        simp only [Bool.or_eq_true, decide_eq_true_eq] at h
        rcases h with (h | h) | h
        · exact .inl h
        · exact .inr ⟨e, by simp, hb, .inl h⟩
        · exact .inr ⟨e, by simp, hb, .inr h⟩
      · exact .inl h
    · exact .inr ⟨e', by simp [he], hb⟩
theorem clos_good {l : List Oper} (r : List Oper) : ∀ (k : Nat) (acc : List Nat), acc.length = k → (∀ j, r[j]? = l[k + j]?) → Good l acc → Good l (clos r acc) := by
  induction r with
  | nil => intro k acc _ _ hg; exact hg
  | cons o r ih =>
    intro k acc hk hr hg
    refine ih (k + 1) _ (by simp [hk]) (fun j => by have := hr (j + 1); simpa [Nat.add_assoc, Nat.add_comm 1 j] using this) ?_
    intro i m hm j hj L hL hd
    rcases Nat.lt_or_ge i acc.length with h | h
    · rw [List.getElem?_append_left h] at hm
      exact hg i m hm j hj L hL hd
    · rw [List.getElem?_append_right h] at hm
      have hi : i = k := by
        rcases Nat.lt_or_ge 0 (i - acc.length) with h' | h'
        · rw [List.getElem?_eq_none (by simp; omega)] at hm; cases hm
        · omega
      subst hi
      rw [hk, Nat.sub_self] at hm
      simp only [List.getElem?_cons_zero, Option.some.injEq] at hm
      subst hm
      have ho : l[i]? = some o := by have := hr 0; simpa using this.symm
      rcases mask_spec acc o.after.toList j 0 hj with h0 | ⟨e, he, hb, hj⟩
      · simp at h0
      · have hLe := hd o ho e (by simpa using he) hb
        rcases hj with rfl | hj
        · exact hLe
        · cases hq : acc[e.on]? with
          | none => rw [List.getD_eq_getElem?_getD, hq] at hj; simp at hj
          | some m =>
            rw [List.getD_eq_getElem?_getD, hq] at hj
            exact hg e.on m hq j hj L hL fun o' ho' => hL e.on o' ho' hLe

/-- What is left, in the text's order. -/
def left (l : List Oper) (L : Nat → Bool) : List Nat := (List.range l.length).filter fun i => !L i
def seqT (P : Program) (l : List Oper) (Q : Act → World → Prop) : List Nat → Act → World → Prop
  | [], a, w => Q a w
  | i :: r, a, w => wpOne P l.toArray (l.getD i default) (seqT P l Q r) a w
theorem seqT_of_wpT {P : Program} {l : List Oper} {Q : Act → World → Prop} (r : List Oper) : ∀ (k : Nat) (a : Act) (w : World), (∀ j, r[j]? = l[k + j]?) → wpT P l.toArray Q r a w → seqT P l Q (List.range' k r.length) a w := by
  induction r with
  | nil => intro k a w _ h; exact h
  | cons o r ih =>
    intro k a w hr h
    have ho : l.getD k default = o := by have := hr 0; simp only [List.getElem?_cons_zero, Nat.add_zero] at this; rw [List.getD_eq_getElem?_getD, ← this]; rfl
    rw [List.length_cons, List.range'_succ]
    unfold seqT
    rw [ho]
    exact wpOne_mono (fun a w h => ih (k + 1) a w (fun j => by have := hr (j + 1); simpa [Nat.add_assoc, Nat.add_comm 1 j] using this) h) h
theorem seqT_front {P : Program} {l : List Oper} {Q : Act → World → Prop} {i : Nat} {post : List Nat} (pre : List Nat)
    (hs : ∀ p ∈ pre, ∀ K a w, wpOne P l.toArray (l.getD p default) (wpOne P l.toArray (l.getD i default) K) a w → wpOne P l.toArray (l.getD i default) (wpOne P l.toArray (l.getD p default) K) a w) :
    ∀ (a : Act) (w : World), seqT P l Q (pre ++ i :: post) a w → wpOne P l.toArray (l.getD i default) (seqT P l Q (pre ++ post)) a w := by
  induction pre with
  | nil => intro a w h; exact h
  | cons p pre ih =>
    intro a w h
    rw [List.cons_append] at h
    unfold seqT at h
    have h2 := wpOne_mono (fun a w hh => ih (fun q hq => hs q (by simp [hq])) a w hh) h
    have h3 := hs p (by simp) _ a w h2
    exact wpOne_mono (fun a w hh => by rw [List.cons_append]; unfold seqT; exact hh) h3

theorem noQ_wp {P : Program} {o : Oper} {a : Act} {w : World} {K : Act → World → Prop} {Q : Exit → Act → World → Prop} (h : o.wp P a w K noQ) : o.wp P a w K Q := by
  unfold Oper.wp at *
  generalize (execOp a.eval o).run P w = r at *
  cases r with
  | ok n w' =>
    cases n <;> simp only [Oper.upon] at h ⊢ <;> first
      | exact h
      | exact Calls.mono h fun e w'' he => by cases e <;> first | exact he | exact he.elim | exact he.elim fun _ h => h.elim fun _ h => h.elim
  | halt x w' => cases x <;> simp only [Oper.upon] at h ⊢ <;> exact h.elim

theorem getD_replicate (n j : Nat) : (Array.replicate n false).getD j false = false := by
  rw [Array.getD_eq_getD_getElem?, Array.getElem?_replicate]; split <;> rfl

theorem wpAny_text {P : Program} {l : List Oper} {Q : Exit → Act → World → Prop} (hB : textB P l = true) : ∀ (fuel : Nat) (listed : Array Bool) (a : Act) (w : World), listed.size = l.length →
    Closed l (fun i => listed.getD i false) → (left l fun i => listed.getD i false).length ≤ fuel → seqT P l (Q .normal) (left l fun i => listed.getD i false) a w → wpAny P .any l.toArray Q fuel listed a w := by
  simp only [textB, Bool.and_eq_true] at hB
  obtain ⟨⟨hsel, hback⟩, hpair⟩ := hB
  have hsel' := Region.noSelect_spec hsel
  have hg : Good l (clos l []) := clos_good l 0 [] rfl (fun j => by simp) (fun i m h => by simp at h)
  have back : ∀ (i : Nat) (o : Oper), l[i]? = some o → ∀ e ∈ o.after, binds e = true → e.on < i := fun i o ho e he hb => by
    have := List.all_eq_true.1 hback (o, i) (by rw [List.mem_zipIdx_iff_getElem?]; exact ho)
    have := Array.all_eq_true_iff_forall_mem.1 this e he
    simpa [hb] using this
  intro fuel
  induction fuel with
  | zero =>
    intro listed a w hsz hcl hlen hq
    have hnil : left l (fun i => listed.getD i false) = [] := List.eq_nil_of_length_eq_zero (by omega)
    rw [hnil] at hq
    refine ⟨?_, hq⟩
    refine List.eq_nil_iff_forall_not_mem.2 fun j hj => ?_
    obtain ⟨hj0, o, ho, _⟩ := mem_ready.1 hj
    have hlt : j < l.length := by have := (Array.getElem?_eq_some_iff.1 ho).1; simpa using this
    have : j ∈ left l (fun i => listed.getD i false) := List.mem_filter.2 ⟨List.mem_range.2 hlt, by
      rw [Array.getD_eq_getD_getElem?, Array.getElem?_eq_getElem (by omega)] at hj0
      show (!listed.getD j false) = true
      rw [Array.getD_eq_getD_getElem?, Array.getElem?_eq_getElem (by omega)]
      simpa using hj0⟩
    rw [hnil] at this
    cases this
  | succ fuel ih =>
    intro listed a w hsz hcl hlen hq
    have gd : ∀ j, j < l.length → listed.getD j true = listed.getD j false := fun j hj => by
      rw [Array.getD_eq_getD_getElem?, Array.getD_eq_getD_getElem?, Array.getElem?_eq_getElem (by omega)]; rfl
    refine ⟨fun hr => ?_, fun i hi => ?_⟩
    · cases hle : left l (fun i => listed.getD i false) with
      | nil => rw [hle] at hq; exact hq
      | cons i rest =>
        exfalso
        have hmem : i ∈ left l (fun i => listed.getD i false) := by rw [hle]; simp
        have hm := List.mem_filter.1 hmem
        have hlt := List.mem_range.1 hm.1
        have hun : listed.getD i false = false := by simpa using hm.2
        have : i ∈ Region.ready .any l.toArray listed := by
          refine mem_ready.2 ⟨by rw [gd i hlt]; exact hun, l[i], by simp [hlt], fun e he hb => ?_⟩
          have hon := back i l[i] (by simp [hlt]) e he hb
          cases hL : listed.getD e.on false
          · exfalso
            have hme : e.on ∈ left l (fun i => listed.getD i false) := List.mem_filter.2 ⟨List.mem_range.2 (by omega), by simp only [hL]; rfl⟩
            have hp : (left l (fun i => listed.getD i false)).Pairwise (· < ·) := List.Pairwise.filter _ List.pairwise_lt_range
            rw [hle] at hme hp
            rcases List.mem_cons.1 hme with h | h
            · omega
            · have := (List.pairwise_cons.1 hp).1 _ h; omega
          · rfl
        rw [hr] at this
        cases this
    · obtain ⟨hj0, o, ho, hdeps⟩ := mem_ready.1 hi
      have hlt : i < l.length := by have := (Array.getElem?_eq_some_iff.1 ho).1; simpa using this
      have ho' : l[i]? = some o := by simpa using ho
      have hgo : l.getD i default = o := by rw [List.getD_eq_getElem?_getD, ho']; rfl
      rw [gd i hlt] at hj0
      have hmem : i ∈ left l (fun i => listed.getD i false) := List.mem_filter.2 ⟨List.mem_range.2 hlt, by simp only [hj0]; rfl⟩
      obtain ⟨pre, post, hsplit⟩ := List.append_of_mem hmem
      have hp : (left l (fun i => listed.getD i false)).Pairwise (· < ·) := List.Pairwise.filter _ List.pairwise_lt_range
      rw [hsplit] at hq hp
      have hpre : ∀ p ∈ pre, p < i := fun p hpp => (List.pairwise_append.1 hp).2.2 p hpp i (by simp)
      have hpost : ∀ p ∈ post, i < p := fun p hpp => (List.pairwise_cons.1 (List.pairwise_append.1 hp).2.1).1 p hpp
      have hdepsL : Deps l (fun i => listed.getD i false) i := fun o2 ho2 e he hb => by
        rw [ho'] at ho2; injection ho2 with ho2; subst ho2; exact hdeps e he hb
      have hfront := seqT_front (P := P) (l := l) (Q := Q .normal) (i := i) (post := post) pre (fun p hpp K a w hh => by
        have hpi := hpre p hpp
        have hpl : p < l.length := by omega
        have hpun : listed.getD p false = false := by
          have : p ∈ left l (fun i => listed.getD i false) := by rw [hsplit]; simp [hpp]
          simpa using (List.mem_filter.1 this).2
        have hgp : l.getD p default = l[p] := by rw [List.getD_eq_getElem?_getD, List.getElem?_eq_getElem hpl]; rfl
        have h1 := List.all_eq_true.1 hpair (o, i) (by rw [List.mem_zipIdx_iff_getElem?]; exact ho')
        have h2 := List.all_eq_true.1 h1 (l[p], p) (by rw [List.mem_zipIdx_iff_getElem?]; simp [List.getElem?_take, hpi, hpl])
        simp only [Bool.or_eq_true, Bool.and_eq_true] at h2
        rcases h2 with h2 | ⟨h2, h3⟩
        · exfalso
          cases hc : (clos l [])[i]? with
          | none => rw [List.getD_eq_getElem?_getD, hc] at h2; simp at h2
          | some m =>
            rw [List.getD_eq_getElem?_getD, hc] at h2
            have := hg i m hc p h2 _ hcl hdepsL
            simp only [hpun] at this
            cases this
        · rw [hgp, hgo] at hh ⊢
          exact swap h2 (fun cs b => hsel' p l[p] cs b (by simp [hpl])) (fun cs b => hsel' i o cs b ho) h3 hh) a w hq
      rw [hgo] at hfront
      have hsz' : (listed.setIfInBounds i true).size = l.length := by simpa using hsz
      have hleft : left l (fun j => (listed.setIfInBounds i true).getD j false) = pre ++ post := by
        have e1 : left l (fun j => (listed.setIfInBounds i true).getD j false) = (left l (fun j => listed.getD j false)).filter (fun j => j != i) := by
          unfold left
          rw [List.filter_filter]
          refine List.filter_congr fun j hj => ?_
          have hjl := List.mem_range.1 hj
          by_cases hji : j = i
          · subst hji
            simp [hsz, hlt]
          · show (!(listed.setIfInBounds i true).getD j false) = (j != i && !listed.getD j false)
            rw [getD_set_ne false (Ne.symm hji)]
            simp [hji]
        rw [e1, hsplit, List.filter_append, List.filter_cons]
        rw [List.filter_eq_self.2 (fun p hpp => by have := hpre p hpp; simp; omega), List.filter_eq_self.2 (fun p hpp => by have := hpost p hpp; simp; omega)]
        simp
      have hcl' : Closed l (fun j => (listed.setIfInBounds i true).getD j false) := by
        intro j o2 ho2 hL e he hb
        show (listed.setIfInBounds i true).getD e.on false = true
        by_cases hji : j = i
        · subst hji
          exact getD_set_true (hdepsL o2 ho2 e he hb)
        · have hL' : (listed.setIfInBounds i true).getD j false = true := hL
          rw [getD_set_ne false (Ne.symm hji)] at hL'
          exact getD_set_true (hcl j o2 ho2 hL' e he hb)
      have hlen' : (left l (fun j => (listed.setIfInBounds i true).getD j false)).length ≤ fuel := by
        rw [hleft]
        rw [hsplit] at hlen
        simp at hlen ⊢
        omega
      unfold wpOp
      simp only [ho]
      unfold wpOne at hfront
      split
      · rename_i hw
        rw [if_pos hw] at hfront
        exact .inl (noQ_wp (Oper.wp_near (fun a' w' _ hk => ih _ a' w' hsz' hcl' hlen' (by rw [hleft]; exact hk)) hfront.2))
      · rename_i hw
        rw [if_neg hw] at hfront
        exact ih _ _ w hsz' hcl' hlen' (by rw [hleft]; exact hfront)

/-- A region whose order is drawn, in the order of its text. -/
theorem wp_region_text {P : Program} {id : Nat} {l : List Oper} {Q : Exit → Act → World → Prop} {a : Act} {w : World} (hm : P.follows .mixedOrders = true) (hB : textB P l = true)
    (h : wpT P l.toArray (Q .normal) l a w.drew) : (Code.region id l.toArray true).wp P Q a w := by
  refine wp_region_any hm (wpAny_text hB _ _ a _ (by simp) ?_ ?_ ?_)
  · intro i o _ hL
    have h0 : (Array.replicate l.toArray.size false).getD i false = true := hL
    rw [getD_replicate] at h0
    cases h0
  · refine Nat.le_trans (List.length_filter_le _ _) ?_
    simp
  · have e : left l (fun i => (Array.replicate l.toArray.size false).getD i false) = List.range' 0 l.length := by
      unfold left
      rw [List.filter_eq_self.2 (fun j _ => by show (!(Array.replicate l.toArray.size false).getD j false) = true; rw [getD_replicate]; rfl), List.range_eq_range']
    rw [e]
    exact seqT_of_wpT l 0 a _ (fun j => by simp) h
end Go.Proofs.Ytncnkfjddolabaa.Dr
