/- The base of this seat's proofs, sixth part: the machine's steps, and a runner that takes all steps that can be computed. -/
import Derived.Test.YtkjahaoobdbffaaB5
namespace Go.Proofs.Ytkjahaoobdbffaa
open Go Go.RowKit

structure Ctx where
  P : Program
  f : FuncId
  hE : GH
  w0 : World
  inc : List Nat
  n : Nat
  R : Ending → World → Prop

def fr0 (f : FuncId) (tmps : Array Value) (todo : List Item) : Frame := { fn := f, tmps, todo, defers := [], mode := .run, kind := .normal }
def base (f : FuncId) : Frame := { (default : Frame) with fn := f, kind := .normal }

theorem fr0_at (f : FuncId) (tmps : Array Value) (todo : List Item) : fr0 f tmps todo = (base f).at ⟨tmps, []⟩ todo := rfl

/-- From here the call comes to an end of which R holds. -/
def Reach (C : Ctx) (tmps : Array Value) (todo : List Item) (w : World) : Prop :=
  ∀ cs, ∃ e w' fr', C.R e w' ∧ Comes C.P (lone (fr0 C.f tmps todo) cs w) (lone fr' cs w') e ∧ fr'.fn = C.f ∧ fr'.leaving C.P w' e

section reach
variable {C : Ctx} {tmps tmps' : Array Value} {todo todo' k : List Item} {w w' : World}

theorem Reach.steps (h : ∀ cs, Steps C.P (lone (fr0 C.f tmps todo) cs w) (lone (fr0 C.f tmps' todo') cs w')) (h' : Reach C tmps' todo' w') : Reach C tmps todo w := by
  intro cs
  obtain ⟨e, w'', fr', hR, hc, hf, hl⟩ := h' cs
  exact ⟨e, w'', fr', hR, .of_steps (h cs) hc, hf, hl⟩

theorem Reach.step (h : ∀ cs, step C.P (lone (fr0 C.f tmps todo) cs w) = .next (lone (fr0 C.f tmps' todo') cs w')) (h' : Reach C tmps' todo' w') : Reach C tmps todo w :=
  h'.steps fun cs => .one (h cs)

theorem Reach.value {ops : Array Oper} {i : Nat} {rest : List Nat} {o : Oper} {v : Value} (ho : ops[i]? = some o) (hw : Region.wanted o (yielded ops tmps) = true)
    (hr : (execOp (evT tmps) o).run C.P w = .ok (.value v) w') (h' : Reach C ((⟨tmps, []⟩ : Act).put o.dst v).tmps (.inRegion ops rest :: k) w') : Reach C tmps (.inRegion ops (i :: rest) :: k) w := by
  refine h'.step fun cs => ?_
  have hg := stepG_op (P := C.P) (b := base C.f) (a := ⟨tmps, []⟩) (k := k) (cs := cs) (w := w) (rest := rest) ho hw
  have hfin : ((base C.f).at ⟨tmps, []⟩ (.inRegion ops (i :: rest) :: k)).finish v = fr0 C.f ((⟨tmps, []⟩ : Act).put o.dst v).tmps (.inRegion ops rest :: k) := by
    rw [Frame.finish_at, ho, fr0_at]
    cases hd : o.dst <;> simp [Act.put, hd]
  rw [fr0_at]
  refine step_lone_go ?_
  have hr' : (execOp (⟨tmps, []⟩ : Act).eval o).run C.P w = .ok (.value v) w' := hr
  rw [hg, ← hfin]; simp [stepG.apply, hr']

theorem Reach.skip {ops : Array Oper} {i : Nat} {rest : List Nat} {o : Oper} (ho : ops[i]? = some o) (hw : Region.wanted o (yielded ops tmps) = true)
    (hr : (execOp (evT tmps) o).run C.P w = .ok .skip w') (h' : Reach C ((⟨tmps, []⟩ : Act).put o.dst undef).tmps (.inRegion ops rest :: k) w') : Reach C tmps (.inRegion ops (i :: rest) :: k) w := by
  refine h'.step fun cs => ?_
  have hg := stepG_op (P := C.P) (b := base C.f) (a := ⟨tmps, []⟩) (k := k) (cs := cs) (w := w) (rest := rest) ho hw
  have hfin : ((base C.f).at ⟨tmps, []⟩ (.inRegion ops (i :: rest) :: k)).finish undef = fr0 C.f ((⟨tmps, []⟩ : Act).put o.dst undef).tmps (.inRegion ops rest :: k) := by
    rw [Frame.finish_at, ho, fr0_at]
    cases hd : o.dst <;> simp [Act.put, hd]
  rw [fr0_at]
  refine step_lone_go ?_
  have hr' : (execOp (⟨tmps, []⟩ : Act).eval o).run C.P w = .ok .skip w' := hr
  rw [hg, ← hfin]; simp [stepG.apply, hr']

theorem Reach.unwanted {ops : Array Oper} {i : Nat} {rest : List Nat} {o : Oper} (ho : ops[i]? = some o) (hw : Region.wanted o (yielded ops tmps) = false)
    (h' : Reach C ((⟨tmps, []⟩ : Act).put o.dst undef).tmps (.inRegion ops rest :: k) w) : Reach C tmps (.inRegion ops (i :: rest) :: k) w := by
  refine h'.step fun cs => ?_
  have hs := step_op_skip (P := C.P) (b := base C.f) (a := ⟨tmps, []⟩) (k := k) (cs := cs) (w := w) (ops := ops) (i := i) (rest := rest) (by simp [ho]; simpa using hw)
  rw [fr0_at, hs, fr0_at]
  simp only [ho, Option.bind_some]
  cases hd : o.dst <;> simp [Act.put]

theorem Reach.call {ops : Array Oper} {i : Nat} {rest : List Nat} {o : Oper} {f : FuncId} {args : Array Value} (ho : ops[i]? = some o) (hw : Region.wanted o (yielded ops tmps) = true)
    (hr : (execOp (evT tmps) o).run C.P w = .ok (.enter f args) w')
    (hc : Calls C.P f args w' fun e w'' => ∃ v, e = .returned v ∧ Reach C ((⟨tmps, []⟩ : Act).put o.dst v).tmps (.inRegion ops rest :: k) w'') : Reach C tmps (.inRegion ops (i :: rest) :: k) w := by
  intro cs
  have hr' : (execOp (⟨tmps, []⟩ : Act).eval o).run C.P w = .ok (.enter f args) w' := hr
  have hg := stepG_op (P := C.P) (b := base C.f) (a := ⟨tmps, []⟩) (k := k) (cs := cs) (w := w) (rest := rest) ho hw
  have henter : Go.step C.P (lone ((base C.f).at ⟨tmps, []⟩ (.inRegion ops (i :: rest) :: k)) cs w) =
      .next (lone (Frame.enter C.P f args .normal) ((base C.f).at ⟨tmps, []⟩ (.inRegion ops (i :: rest) :: k) :: cs) w') :=
    step_lone_go (by rw [hg]; simp [stepG.apply, hr', Frame.at])
  obtain ⟨e, w'', fr, ⟨v, rfl, hR⟩, hsteps, _, hleave⟩ := hc ((base C.f).at ⟨tmps, []⟩ (.inRegion ops (i :: rest) :: k) :: cs)
  have hfin : ((base C.f).at ⟨tmps, []⟩ (.inRegion ops (i :: rest) :: k)).finish v = fr0 C.f ((⟨tmps, []⟩ : Act).put o.dst v).tmps (.inRegion ops rest :: k) := by
    rw [Frame.finish_at, ho, fr0_at]
    cases hd : o.dst <;> simp [Act.put, hd]
  obtain ⟨e', w3, fr', h1, h2, h3, h4⟩ := hR cs
  refine ⟨e', w3, fr', h1, .of_steps (.head henter (Steps.trans hsteps (.one ?_))) h2, h3, h4⟩
  rw [← hfin]; exact step_leave_returned hleave

theorem Reach.ret {fn : Func} {v : Value} (hf : C.P.funcs[C.f]? = some fn) (hv : (results fn tmps).run C.P w = .ok v w) (hR : C.R (.returned v) w) : Reach C tmps (.code .ret :: k) w := by
  intro cs
  refine ⟨.returned v, w, { fr0 C.f tmps (.code .ret :: k) with mode := .returning }, hR, .one ?_, rfl, rfl, rfl, rfl, fn, hf, hv⟩
  rw [fr0_at]; exact step_ret

theorem Reach.fall {fn : Func} {v : Value} (hf : C.P.funcs[C.f]? = some fn) (hv : (results fn tmps).run C.P w = .ok v w) (hR : C.R (.returned v) w) : Reach C tmps [] w := by
  intro cs
  refine ⟨.returned v, w, { fr0 C.f tmps [] with mode := .returning }, hR, .one ?_, rfl, rfl, rfl, rfl, fn, hf, hv⟩
  rw [fr0_at]; exact step_end

/-- Behind a piece of code of which a wp holds. -/
theorem Reach.wp {c : Code} (hwp : c.wp C.P (fun e a w => match e with | .normal => a.defers = [] ∧ Reach C a.tmps k w | _ => False) ⟨tmps, []⟩ w) : Reach C tmps (.code c :: k) w := by
  intro cs
  obtain ⟨e, a', w', hq, harr⟩ := hwp (base C.f) k cs
  cases e <;> simp only at hq
  obtain ⟨hd, hr⟩ := hq
  obtain ⟨e, w'', fr', h1, h2, h3, h4⟩ := hr cs
  refine ⟨e, w'', fr', h1, .of_steps ?_ h2, h3, h4⟩
  have : (base C.f).at a' k = fr0 C.f a'.tmps k := by rw [fr0_at]; simp [Frame.at, hd]
  rw [fr0_at, ← this]; exact harr
end reach

structure Cfg where
  todo : List Item
  s : S

/-- **THE GOAL**: whatever memory and slots are, if all that is known holds of them, the call comes to an end of which R holds. -/
def G (C : Ctx) (h : GH) (c : Cfg) : Prop := ∀ β w tmps, Sim C.hE C.w0 C.inc C.n c.s h β w tmps → Reach C tmps c.todo w

/-- A tuple that is moved. -/
def tupOf (s : S) : Op → Option (List SV1)
  | .move (.tmp t) => match lk t s.slots with
    | .tup vs => some vs
    | _ => none
  | _ => none

/-- One operation on what is known. -/
def opStep (P : Program) (n : Nat) (s : S) (ops : Array Oper) (o : Oper) : Option S :=
  match o.guard with
  | none => match opEval P s [] o.op with
    | some (v, e) => match o.dst with
      | some d => if Nat.blt d n then some (putS (applyEff s e) (some d) (.one v)) else none
      | none => some (applyEff s e)
    | none => match tupOf s o.op, o.dst with
      | some vs, some d => if Nat.blt d n then some (putS s (some d) (.tup vs)) else none
      | _, _ => none
  | some (j, want) => match (ops[j]?).bind (·.dst), o.dst with
    | some tg, some d => match opEval P s (chain s 4 tg want) o.op with
      | some (v, .no) => if Nat.blt d n && Nat.blt tg n && !(Nat.beq tg d) then some (putS s (some d) (.gd tg want v)) else none
      | _ => none
    | _, _ => none

def stepC (P : Program) (n : Nat) (c : Cfg) : Option Cfg :=
  match c.todo with
  | .code (.seq a b) :: k => some ⟨.code a :: .code b :: k, c.s⟩
  | .code .skip :: k => some ⟨k, c.s⟩
  | .code (.label _) :: k => some ⟨k, c.s⟩
  | .inBlock _ :: k => some ⟨k, c.s⟩
  | .inScope _ :: k => some ⟨k, c.s⟩
  | .code (.block id body) :: k => some ⟨.code body :: .inBlock id :: k, c.s⟩
  | .code (.scope body) :: k => some ⟨.code body :: .inScope body :: k, c.s⟩
  | .code (.exit id) :: k => match exitTo id k with
    | some k' => some ⟨k', c.s⟩
    | none => none
  | .code (.region _ ops false) :: k => some ⟨.inRegion ops (List.range ops.size) :: k, c.s⟩
  | .inRegion _ [] :: k => some ⟨k, c.s⟩
  | .inRegion ops (i :: rest) :: k => match ops[i]? with
    | some o => match opStep P n c.s ops o with
      | some s' => some ⟨.inRegion ops rest :: k, s'⟩
      | none => none
    | none => none
  | _ => none

def run (P : Program) (n : Nat) : Nat → Cfg → Cfg
  | 0, c => c
  | m + 1, c => match stepC P n c with
    | some c' => run P n m c'
    | none => c

theorem put_tmps (tmps : Array Value) (d : Option Nat) (v : Value) : ((⟨tmps, []⟩ : Act).put d v).tmps = match d with | some d => tmps.setIfInBounds d v | none => tmps := by
  cases d <;> rfl

theorem wanted_of {tmps : Array Value} {ops : Array Oper} {o : Oper} {j tg : Nat} {want : Bool} (hg : o.guard = some (j, want)) (hj : (ops[j]?).bind (·.dst) = some tg) (htg : tg < tmps.size) :
    Region.wanted o (yielded ops tmps) = true ↔ tmps.getD tg undef = .bool want := by
  simp only [Region.wanted, hg, yielded, hj, Option.bind_some, Array.getElem?_eq_getElem htg]
  have : tmps.getD tg undef = tmps[tg] := by simp [htg]
  rw [this]
  cases tmps[tg] <;> simp

theorem tupOf_ok {P : Program} {hE : GH} {w0 : World} {inc : List Nat} {n : Nat} {s : S} {h : GH} {β : Nat → Nat} {w : World} {tmps : Array Value} (hS : Sim hE w0 inc n s h β w tmps) {o : Oper} {vs : List SV1} (ht : tupOf s o.op = some vs) :
    ∃ arr : Array Value, SV1sOk s.nb β vs arr.toList ∧ ∀ w' : World, (execOp (evT tmps) o).run P w' = .ok (.value (.tuple arr)) w' := by
  unfold tupOf at ht
  split at ht
  · rename_i t hop
    split at ht
    · rename_i vs' hl
      simp only [Option.some.injEq] at ht; subst ht
      have hs := hS.slots t
      rw [hl] at hs
      obtain ⟨arr, harr, hc⟩ := hs
      have : evT tmps (.tmp t) = .tuple arr := harr
      exact ⟨arr, hc, fun w' => by simp [execOp, hop, this]⟩
    · simp at ht
  · simp at ht

theorem Reach.done {C : Ctx} {ops : Array Oper} {i : Nat} {rest : List Nat} {k : List Item} {w : World} {tmps : Array Value} {o : Oper} {s s' : S} {h : GH} {β : Nat → Nat} (ho : ops[i]? = some o)
    (hS : Sim C.hE C.w0 C.inc C.n s h β w tmps) (hs : opStep C.P C.n s ops o = some s') (h' : G C h ⟨.inRegion ops rest :: k, s'⟩) : Reach C tmps (.inRegion ops (i :: rest) :: k) w := by
  unfold opStep at hs
  split at hs
  · rename_i hg
    have hw : Region.wanted o (yielded ops tmps) = true := by simp [Region.wanted, hg]
    split at hs
    · rename_i v e he
      have hok := opEval_ok hS GOk.nil he
      cases e with
      | no =>
        obtain ⟨u, h1, h2⟩ := hok
        refine Reach.value ho hw (h2 w fun _ _ _ => rfl) (h' β w _ ?_)
        rw [put_tmps]
        split at hs
        · rename_i d hd
          split at hs
          · rename_i hlt
            simp only [Option.some.injEq] at hs; subst hs
            rw [hd]
            exact hS.put (Nat.le_of_ble_eq_true hlt) h1
          · simp at hs
        · rename_i hd
          simp only [Option.some.injEq] at hs; subst hs
          rw [hd]
          exact hS
      | new T cs =>
        obtain ⟨arr, u, h1, h2, h3⟩ := hok
        have hS' := hS.new (T := T) h1
        refine Reach.value ho hw h3 (h' (fun k => if k = s.nb then w.heap.size else β k) (w.alloc (.cells arr T)) _ ?_)
        rw [put_tmps]
        split at hs
        · rename_i d hd
          split at hs
          · rename_i hlt
            simp only [Option.some.injEq] at hs; subst hs
            rw [hd]
            exact hS'.put (Nat.le_of_ble_eq_true hlt) (h2 _ (by simp))
          · simp at hs
        · rename_i hd
          simp only [Option.some.injEq] at hs; subst hs
          rw [hd]
          exact hS'
      | upd x T cs =>
        obtain ⟨b, cs0, arr, h1, h2, h3⟩ := hok
        have hS' := hS.upd h1 h2
        refine Reach.skip ho hw h3 (h' β (w.setRow (β x) arr) _ ?_)
        rw [put_tmps]
        split at hs
        · rename_i d hd
          split at hs
          · rename_i hlt
            simp only [Option.some.injEq] at hs; subst hs
            rw [hd]
            have he' : v = .atom .any := by
              have : o.op = o.op := rfl
              revert he
              cases hop : o.op <;> intro he <;> simp only [opEval] at he <;> (repeat' split at he) <;> simp_all
            subst he'
            exact hS'.put (Nat.le_of_ble_eq_true hlt) trivial
          · simp at hs
        · rename_i hd
          simp only [Option.some.injEq] at hs; subst hs
          rw [hd]
          exact hS'
    · split at hs
      · rename_i vs d ht hd
        split at hs
        · rename_i hlt
          simp only [Option.some.injEq] at hs; subst hs
          obtain ⟨arr, harr, hr⟩ := tupOf_ok (P := C.P) hS ht
          refine Reach.value ho hw (hr w) (h' β w _ ?_)
          rw [put_tmps, hd]
          exact hS.put (Nat.le_of_ble_eq_true hlt) ⟨arr, rfl, harr⟩
        · simp at hs
      · simp at hs
  · rename_i j want hg
    split at hs
    · rename_i tg d hj hd
      split at hs
      · rename_i v he
        split at hs
        · rename_i hc
          simp only [Bool.and_eq_true, Bool.not_eq_true'] at hc
          have hd1 : d < C.n := Nat.le_of_ble_eq_true hc.1.1
          have htg : tg < C.n := Nat.le_of_ble_eq_true hc.1.2
          have hne : d ≠ tg := fun e => by have := hc.2; rw [e, Nat.beq_refl] at this; cases this
          simp only [Option.some.injEq] at hs; subst hs
          have hwi := wanted_of (tmps := tmps) hg hj (by rw [hS.size]; exact htg)
          by_cases hwt : Region.wanted o (yielded ops tmps) = true
          · have htrue := hwi.1 hwt
            obtain ⟨u, h1, h2⟩ := opEval_ok hS (chain_ok hS 4 tg want htrue) he
            refine Reach.value ho hwt (h2 w fun _ _ _ => rfl) (h' β w _ ?_)
            rw [put_tmps, hd]
            refine hS.put hd1 (.inl ⟨?_, h1⟩)
            rw [getD_set_other hne]; exact htrue
          · have hfalse : tmps.getD tg undef ≠ .bool want := fun e => hwt (hwi.2 e)
            refine Reach.unwanted ho (by simpa using hwt) (h' β w _ ?_)
            rw [put_tmps, hd]
            refine hS.put hd1 (.inr ⟨?_, rfl⟩)
            rw [getD_set_other hne]; exact hfalse
        · simp at hs
      · simp at hs
    · simp at hs

theorem G.of_stepC {C : Ctx} {h : GH} {c c' : Cfg} (hs : stepC C.P C.n c = some c') (h' : G C h c') : G C h c := by
  intro β w tmps hS
  obtain ⟨todo, s⟩ := c
  unfold stepC at hs
  simp only at hs hS ⊢
  split at hs
  · simp only [Option.some.injEq] at hs; subst hs
    exact (h' β w tmps hS).step fun cs => by rw [fr0_at, fr0_at]; exact step_seq
  · simp only [Option.some.injEq] at hs; subst hs
    exact (h' β w tmps hS).step fun cs => by rw [fr0_at, fr0_at]; exact step_skip
  · simp only [Option.some.injEq] at hs; subst hs
    exact (h' β w tmps hS).step fun cs => by rw [fr0_at, fr0_at]; exact step_label
  · simp only [Option.some.injEq] at hs; subst hs
    exact (h' β w tmps hS).step fun cs => by rw [fr0_at, fr0_at]; exact step_inBlock
  · simp only [Option.some.injEq] at hs; subst hs
    exact (h' β w tmps hS).step fun cs => by rw [fr0_at, fr0_at]; exact step_lone_go (by simp [stepG, stepG.exec, Frame.at])
  · simp only [Option.some.injEq] at hs; subst hs
    exact (h' β w tmps hS).step fun cs => by rw [fr0_at, fr0_at]; exact step_block
  · simp only [Option.some.injEq] at hs; subst hs
    exact (h' β w tmps hS).step fun cs => by rw [fr0_at, fr0_at]; exact step_lone_go (by simp [stepG, stepG.exec, Frame.at])
  · split at hs
    · rename_i k' hk
      simp only [Option.some.injEq] at hs; subst hs
      exact (h' β w tmps hS).step fun cs => by rw [fr0_at, fr0_at]; exact step_exit hk
    · simp at hs
  · simp only [Option.some.injEq] at hs; subst hs
    exact (h' β w tmps hS).step fun cs => by rw [fr0_at, fr0_at]; exact step_region
  · simp only [Option.some.injEq] at hs; subst hs
    exact (h' β w tmps hS).step fun cs => by rw [fr0_at, fr0_at]; exact step_region_end
  · split at hs
    · rename_i o ho
      split at hs
      · rename_i s' hs'
        simp only [Option.some.injEq] at hs; subst hs
        exact Reach.done ho hS hs' h'
      · simp at hs
    · simp at hs
  · simp at hs

/-- **The runner may be taken.** -/
theorem G.run {C : Ctx} {h : GH} : ∀ (m : Nat) {c : Cfg}, G C h (run C.P C.n m c) → G C h c
  | 0, _, h' => h'
  | m + 1, c, h' => by
    unfold Ytkjahaoobdbffaa.run at h'
    cases hs : stepC C.P C.n c with
    | none => rw [hs] at h'; exact h'
    | some c' => rw [hs] at h'; exact G.of_stepC hs (G.run m h')
end Go.Proofs.Ytkjahaoobdbffaa
