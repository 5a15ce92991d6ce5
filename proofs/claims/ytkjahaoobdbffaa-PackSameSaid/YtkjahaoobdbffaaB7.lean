/- The base of this seat's proofs, seventh part: entering, calls, branches, loops, returning. -/
import Derived.Test.YtkjahaoobdbffaaB6
namespace Go.Proofs.Ytkjahaoobdbffaa
open Go Go.RowKit

def Sub (h : GH) (w : World) : Prop := ∀ b o, h b = some o → w.heap[b]? = some o
def GLe (h h' : GH) : Prop := ∀ b o, h b = some o → h' b = some o
theorem GLe.refl (h : GH) : GLe h h := fun _ _ e => e
theorem GLe.trans {a b c : GH} (h : GLe a b) (k : GLe b c) : GLe a c := fun x o e => k x o (h x o e)

/-- The world has grown, and with it what nobody writes any more. -/
structure Grow (h : GH) (w : World) (h' : GH) (w' : World) : Prop where
  below : Below w.heap.size w w'
  le : GLe h h'
  old : ∀ b, b < w.heap.size → h' b = h b
  sub : Sub h' w'

theorem Grow.of_below {h : GH} {w w' : World} (hs : Sub h w) (hb : Below w.heap.size w w') : Grow h w h w' :=
  ⟨hb, GLe.refl h, fun _ _ => rfl, fun b o e => by have := hs b o e; rw [hb.block b (Array.getElem?_eq_some_iff.1 this).1]; exact this⟩

theorem Grow.trans {h h1 h2 : GH} {w w1 w2 : World} (a : Grow h w h1 w1) (b : Grow h1 w1 h2 w2) : Grow h w h2 w2 :=
  ⟨a.below.trans (b.below.mono a.below.size), a.le.trans b.le, fun x hx => (b.old x (Nat.lt_of_lt_of_le hx a.below.size)).trans (a.old x hx), b.sub⟩

theorem Sim.sub {hE : GH} {w0 : World} {inc : List Nat} {n : Nat} {s : S} {h : GH} {β : Nat → Nat} {w : World} {tmps : Array Value} (hS : Sim hE w0 inc n s h β w tmps) : Sub h w := hS.ghost

theorem Sim.grow {hE : GH} {w0 : World} {inc : List Nat} {n : Nat} {s : S} {h h' : GH} {β : Nat → Nat} {w w' : World} {tmps : Array Value} (hS : Sim hE w0 inc n s h β w tmps) (hg : Grow h w h' w') : Sim hE w0 inc n s h' β w' tmps where
  size := hS.size
  slots := hS.slots
  box k b hb := (hS.box k b hb).of_block (hg.below.block _ (hS.box k b hb).lt)
  inj := hS.inj
  keys := hS.keys
  fresh := hS.fresh
  ghost := hg.sub
  gno k b hb := by rw [hg.old _ (hS.box k b hb).lt]; exact hS.gno k b hb
  frame := hS.frame.trans (Frm.of_below hg.below inc)
  gle b o hb := hg.le b o (hS.gle b o hb)
  gold b hb hn := (hg.old b (Nat.lt_of_lt_of_le hb hS.frame.size)).trans (hS.gold b hb hn)
  own k o ho := ownsRow_of_block (hS.own k o ho) fun b hb => hg.below.block b (ownsRow_lt (hS.own k o ho) hb)
  ownB k o b ho hb := by
    obtain ⟨h1, h2, h3⟩ := hS.ownB k o b ho hb
    exact ⟨by rw [hg.old b (ownsRow_lt (hS.own k o ho) hb)]; exact h1, h2, h3⟩
  ownI := hS.ownI

def Cell.val : Cell → Option Value
  | .raw v => some v
  | .int k n => some (.int k n)
  | .bool b => some (.bool b)
  | .str s => some (.string s)
  | .sl v _ => some v
  | _ => none

def cellVals : List Cell → Option (List Value)
  | [] => some []
  | c :: cs => match c.val, cellVals cs with
    | some v, some vs => some (v :: vs)
    | _, _ => none

def SV1.val : SV1 → Option Value
  | .atom c => c.val
  | .agg cs => match cellVals cs with
    | some vs => some (.agg vs.toArray)
    | none => none

def svVals : List SV1 → Option (List Value)
  | [] => some []
  | c :: cs => match c.val, svVals cs with
    | some v, some vs => some (v :: vs)
    | _, _ => none

theorem Cell.val_ok {N : Nat} {β : Nat → Nat} {c : Cell} {v u : Value} (h : c.val = some v) (hu : CellOk N β c u) : u = v := by
  cases c <;> simp [Cell.val] at h <;> simp only [CellOk] at hu
  case raw => rw [← h]; exact hu.1
  case sl => rw [← h]; exact hu.1
  all_goals rw [← h]; exact hu

theorem cellVals_ok {N : Nat} {β : Nat → Nat} {cs : List Cell} {vs us : List Value} (h : cellVals cs = some vs) (hu : CellsOk N β cs us) : us = vs := by
  induction cs generalizing vs us with
  | nil => cases us <;> simp_all [CellsOk, cellVals]
  | cons c cs ih => cases us with
    | nil => simp [CellsOk] at hu
    | cons u us =>
      simp only [cellVals] at h
      split at h
      · rename_i v vs' h1 h2
        simp only [Option.some.injEq] at h; subst h
        rw [Cell.val_ok h1 hu.1, ih h2 hu.2]
      · simp at h

theorem SV1.val_ok {N : Nat} {β : Nat → Nat} {c : SV1} {v u : Value} (h : c.val = some v) (hu : SV1Ok N β c u) : u = v := by
  cases c with
  | atom c => exact Cell.val_ok h hu
  | agg cs =>
    obtain ⟨arr, rfl, hc⟩ := hu
    simp only [SV1.val] at h
    split at h
    · rename_i vs hvs
      simp only [Option.some.injEq] at h; subst h
      rw [← cellVals_ok hvs hc]
    · simp at h

theorem svVals_ok {N : Nat} {β : Nat → Nat} {cs : List SV1} {vs us : List Value} (h : svVals cs = some vs) (hu : SV1sOk N β cs us) : us = vs := by
  induction cs generalizing vs us with
  | nil => cases us <;> simp_all [SV1sOk, svVals]
  | cons c cs ih => cases us with
    | nil => simp [SV1sOk] at hu
    | cons u us =>
      simp only [svVals] at h
      split at h
      · rename_i v vs' h1 h2
        simp only [Option.some.injEq] at h; subst h
        rw [SV1.val_ok h1 hu.1, ih h2 hu.2]
      · simp at h

def SV.ofV : Value → SV
  | .tuple arr => .tup (arr.toList.map SV1.ofV)
  | v => .one (SV1.ofV v)

theorem SV1sOk_map (N : Nat) (β : Nat → Nat) (l : List Value) : SV1sOk N β (l.map SV1.ofV) l := by
  induction l with
  | nil => trivial
  | cons v l ih => exact ⟨SV1ofV_ok N β v, ih⟩

theorem SVofV_ok (N : Nat) (β : Nat → Nat) (tmps : Array Value) (v : Value) : SVOk N β tmps (SV.ofV v) v := by
  cases v <;> first | exact ⟨_, rfl, SV1sOk_map N β _⟩ | (simp only [SV.ofV, SVOk]; exact SV1ofV_ok N β _)

/-! ### Entering -/

def number : Nat → List SV1 → List (Nat × SV)
  | _, [] => []
  | i, v :: vs => (i, .one v) :: number (i + 1) vs

theorem lkAux_number (t : Nat) : ∀ (vs : List SV1) (i : Nat) (newer : List Nat), i ≤ t → lkAux t newer (number i vs) = match vs[t - i]? with | some v => .one v | none => anyS := by
  intro vs
  induction vs with
  | nil => intro i newer _; simp [number, lkAux]
  | cons v vs ih =>
    intro i newer hi
    simp only [number, lkAux]
    by_cases h : i = t
    · subst h; simp
    · have hb : Nat.beq i t = false := by
        cases hb : Nat.beq i t
        · rfl
        · exact absurd (Nat.eq_of_beq_eq_true hb) h
      rw [hb]
      simp only [Bool.false_eq_true, if_false]
      rw [ih (i + 1) _ (by omega)]
      have : t - i = (t - (i + 1)) + 1 := by omega
      rw [this]; simp

theorem Sim.enter {w : World} {h : GH} {svs : List SV1} {args : Array Value} {β : Nat → Nat} {n N : Nat} {boxes : List (Nat × Box)} {owns : List (Nat × Own)} {inc : List Nat} (hargs : SV1sOk N β svs args.toList) (hn : args.size ≤ n) (hs : Sub h w)
    (box : ∀ k b, bx k boxes = some b → BoxOk N β w (β k) b.body) (inj : ∀ k l b c, bx k boxes = some b → bx l boxes = some c → k ≠ l → β k ≠ β l) (keys : ∀ k b, bx k boxes = some b → k < N)
    (fresh : ∀ k b, bx k boxes = some b → match b.inc with | some m => β k = m ∧ m ∈ inc | none => w.heap.size ≤ β k) (gno : ∀ k b, bx k boxes = some b → h (β k) = none)
    (own : ∀ k o, ow k owns = some o → w.ownsRow 0 o.e o.sz o.v o.n o.xs) (ownB : ∀ k o b, ow k owns = some o → o.v.ownBlock = some b → h b = none ∧ (∀ j x, bx j boxes = some x → β j ≠ b) ∧ (b ∈ inc ∨ w.heap.size ≤ b))
    (ownI : ∀ k l o p b, ow k owns = some o → ow l owns = some p → k ≠ l → o.v.ownBlock = some b → p.v.ownBlock ≠ some b) :
    Sim h w inc n ⟨number 0 svs, boxes, N, owns⟩ h β w (args ++ Array.replicate (n - args.size) undef) where
  size := by simp; omega
  slots t := by
    show SVOk N β _ (lk t (number 0 svs)) _
    unfold lk
    rw [lkAux_number t svs 0 [] (Nat.zero_le _)]
    simp only [Nat.sub_zero]
    cases hv : svs[t]? with
    | none => trivial
    | some v =>
      obtain ⟨u, h1, h2⟩ := hargs.get hv
      have h1' : args[t]? = some u := by simpa using h1
      have hlt : t < args.size := (Array.getElem?_eq_some_iff.1 h1').1
      have : (args ++ Array.replicate (n - args.size) undef).getD t undef = u := by
        rw [Array.getD_eq_getD_getElem?, Array.getElem?_append_left hlt, h1']; rfl
      rw [this]; exact h2
  box := box
  inj := inj
  keys := keys
  fresh := fresh
  ghost := hs
  gno := gno
  frame := Frm.refl _ _
  gle := GLe.refl h
  gold _ _ _ := rfl
  own := own
  ownB := ownB
  ownI := ownI

theorem Calls.of_reach {P : Program} {f : FuncId} {fn : Func} {c : Code} {args : Array Value} {w : World} {inc : List Nat} {R : Ending → World → Prop} {hE : GH} (hf : P.funcs[f]? = some fn) (hb : fn.body = some c)
    (h : Reach ⟨P, f, hE, w, inc, fn.ntmps, R⟩ (args ++ Array.replicate (fn.ntmps - args.size) undef) [.code c] w) : Calls P f args w R := by
  intro cs
  have henter : Frame.enter P f args .normal = fr0 f (args ++ Array.replicate (fn.ntmps - args.size) undef) [.code c] := by
    simp [Frame.enter, fr0, hf, hb]
  rw [henter]
  exact h cs

/-- A call whose arguments are plain values. -/
theorem Calls.enter {P : Program} {f : FuncId} {fn : Func} {c : Code} {w : World} {R : Ending → World → Prop} {h : GH} {n : Nat} (svs : List SV1) {args : Array Value} (hf : P.funcs[f]? = some fn) (hb : fn.body = some c) (hnt : fn.ntmps = n)
    (hargs : SV1sOk 0 (fun _ => 0) svs args.toList) (hn : args.size ≤ n) (hs : Sub h w) (hG : G ⟨P, f, h, w, [], n, R⟩ h ⟨[.code c], ⟨number 0 svs, [], 0, []⟩⟩) : Calls P f args w R := by
  subst hnt
  refine Calls.of_reach (inc := []) hf hb (hG (fun _ => 0) w _ ?_)
  exact Sim.enter hargs hn hs (fun k b hk => by cases hk) (fun k l b c hk => by cases hk) (fun k b hk => by cases hk) (fun k b hk => by cases hk) (fun k b hk => by cases hk) (fun k o ho => by cases ho) (fun k o b ho => by cases ho) (fun k l o p b ho => by cases ho)

/-! ### Calls -/

def evArgs (s : S) (g : List (Nat × Bool)) : List Operand → Option (List SV1)
  | [] => some []
  | x :: xs => match evS s g x, evArgs s g xs with
    | some v, some vs => some (v :: vs)
    | _, _ => none

theorem evArgs_ok {hE : GH} {w0 : World} {inc : List Nat} {n : Nat} {s : S} {h : GH} {β : Nat → Nat} {w : World} {tmps : Array Value} (hS : Sim hE w0 inc n s h β w tmps) {g : List (Nat × Bool)} (hg : GOk tmps g) :
    ∀ (l : List Operand) (vs : List SV1), evArgs s g l = some vs → SV1sOk s.nb β vs (l.map (evT tmps)) := by
  intro l
  induction l with
  | nil => intro vs hv; simp [evArgs] at hv; subst hv; trivial
  | cons x l ih =>
    intro vs hv
    simp only [evArgs] at hv
    split at hv
    · rename_i v vs' h1 h2
      simp only [Option.some.injEq] at hv; subst hv
      exact ⟨evS_ok hS hg h1, ih vs' h2⟩
    · simp at hv

/-- Whom a callee's operand calls, with what in front of the arguments and behind them. -/
def calleeS (s : S) (g : List (Nat × Bool)) (x : Operand) : Option (FuncId × List SV1 × List SV1) :=
  match evS s g x with
  | some (.atom (.raw (.func (.func f) first captured))) => some (f, first.toList.map SV1.ofV, captured.toList.map SV1.ofV)
  | some (.atom (.clo f true k off)) => some (f, [.atom (.ptr k off)], [])
  | some (.atom (.clo f false k off)) => some (f, [], [.atom (.ptr k off)])
  | _ => none

structure CallView where
  f : FuncId
  args : List SV1
  dst : Option Nat
  guard : Option (Nat × Bool)

/-- The operation at which the runner stands, where it is a call of a Go function. -/
def callView (c : Cfg) : Option CallView :=
  match c.todo with
  | .inRegion ops (i :: _) :: _ => match ops[i]? with
    | some o => match o.op with
      | .call ⟨.value x, args, _⟩ => match o.guard with
        | none => match calleeS c.s [] x, evArgs c.s [] args.toList with
          | some (f, a, b), some vs => some ⟨f, a ++ vs ++ b, o.dst, none⟩
          | _, _ => none
        | some (j, want) => match (ops[j]?).bind (·.dst) with
          | some tg => match calleeS c.s (chain c.s 4 tg want) x, evArgs c.s (chain c.s 4 tg want) args.toList with
            | some (f, a, b), some vs => some ⟨f, a ++ vs ++ b, o.dst, some (tg, want)⟩
            | _, _ => none
          | none => none
      | _ => none
    | none => none
  | _ => none

/-- Behind the operation at which the runner stands. -/
def afterOp (c : Cfg) (sv : SV) : Cfg :=
  match c.todo with
  | .inRegion ops (i :: rest) :: k => ⟨.inRegion ops rest :: k, putS c.s ((ops[i]?).bind (·.dst)) sv⟩
  | _ => c

/-- The same, what is known of memory being another thing. -/
def withS (c : Cfg) (s : S) : Cfg := ⟨c.todo, s⟩

def dstOk (n : Nat) : Option Nat → Bool
  | some d => Nat.blt d n
  | none => true

/-- Is the function one that is entered? -/
def enters (P : Program) (f : FuncId) : Bool :=
  match P.funcs[f]? with
  | some fn => fn.name != "runtime.NumGoroutine" && fn.body.isSome
  | none => false

theorem run_callFunc {P : Program} {f : FuncId} (he : enters P f = true) (args : Array Value) (w : World) : (callFunc f args).run P w = .ok (.enter f args) w := by
  unfold enters at he
  split at he
  · rename_i fn hf
    simp only [Bool.and_eq_true, bne_iff_ne, ne_eq] at he
    have h1 : ¬ fn.name = "runtime.NumGoroutine" := he.1
    have h2 : ¬ fn.body = none := by intro hb; rw [hb] at he; simp at he
    simp [callFunc, hf, h1, h2]
  · simp at he

theorem run_callS {P : Program} {hE : GH} {w0 : World} {inc : List Nat} {n : Nat} {s : S} {h : GH} {β : Nat → Nat} {w : World} {tmps : Array Value} (hS : Sim hE w0 inc n s h β w tmps) {g : List (Nat × Bool)} (hg : GOk tmps g)
    {o : Oper} {x : Operand} {args : Array Operand} {types : Array TypeId} (ho : o.op = .call ⟨.value x, args, types⟩) {f : FuncId} {a b vs : List SV1} (hx : calleeS s g x = some (f, a, b)) (hv : evArgs s g args.toList = some vs) (he : enters P f = true) :
    ∃ l : List Value, SV1sOk s.nb β (a ++ vs ++ b) l ∧ (execOp (evT tmps) o).run P w = .ok (.enter f l.toArray) w := by
  have hvs := evArgs_ok hS hg _ _ hv
  have happ : ∀ {cs ds : List SV1} {us ws : List Value}, SV1sOk s.nb β cs us → SV1sOk s.nb β ds ws → SV1sOk s.nb β (cs ++ ds) (us ++ ws) := by
    intro cs ds us ws h1 h2
    induction cs generalizing us with
    | nil => cases us <;> simp_all [SV1sOk]
    | cons c cs ih => cases us with
      | nil => simp [SV1sOk] at h1
      | cons u us => exact ⟨h1.1, ih h1.2⟩
  unfold calleeS at hx
  split at hx
  · rename_i f' first captured hev
    simp only [Option.some.injEq, Prod.mk.injEq] at hx
    obtain ⟨rfl, rfl, rfl⟩ := hx
    have hp := evS_atom hS hg hev
    simp only [CellOk] at hp
    refine ⟨first.toList ++ args.toList.map (evT tmps) ++ captured.toList, happ (happ (SV1sOk_map _ _ _) hvs) (SV1sOk_map _ _ _), ?_⟩
    have hl : (first.toList ++ args.toList.map (evT tmps) ++ captured.toList).toArray = first ++ args.map (evT tmps) ++ captured := by apply Array.ext'; simp
    rw [hl]
    simp [execOp, ho, resolve, hp.1, Deferred.ofValue, invoke, run_callFunc he]
  · rename_i f' k off hev
    simp only [Option.some.injEq, Prod.mk.injEq] at hx
    obtain ⟨rfl, rfl, rfl⟩ := hx
    have hp := evS_atom hS hg hev
    simp only [CellOk, if_true] at hp
    refine ⟨[Value.pointer (some ⟨β k, off, none⟩)] ++ args.toList.map (evT tmps) ++ [], happ (happ ⟨⟨rfl, hp.2⟩, trivial⟩ hvs) trivial, ?_⟩
    have hl : ([Value.pointer (some ⟨β k, off, none⟩)] ++ args.toList.map (evT tmps) ++ []).toArray = #[Value.pointer (some ⟨β k, off, none⟩)] ++ args.map (evT tmps) ++ #[] := by apply Array.ext'; simp
    rw [hl]
    simp [execOp, ho, resolve, hp.1, Deferred.ofValue, invoke, run_callFunc he]
  · rename_i f' k off hev
    simp only [Option.some.injEq, Prod.mk.injEq] at hx
    obtain ⟨rfl, rfl, rfl⟩ := hx
    have hp := evS_atom hS hg hev
    simp only [CellOk, Bool.false_eq_true, if_false] at hp
    refine ⟨[] ++ args.toList.map (evT tmps) ++ [.pointer (some ⟨β k, off, none⟩)], happ (happ (cs := []) (us := []) trivial hvs) ⟨⟨rfl, hp.2⟩, trivial⟩, ?_⟩
    have hl : ([] ++ args.toList.map (evT tmps) ++ [Value.pointer (some ⟨β k, off, none⟩)]).toArray = #[] ++ args.map (evT tmps) ++ #[.pointer (some ⟨β k, off, none⟩)] := by apply Array.ext'; simp
    rw [hl]
    simp [execOp, ho, resolve, hp.1, Deferred.ofValue, invoke, run_callFunc he]
  · simp at hx

/-- **A call**, in its widest form. -/
theorem G.callX {C : Ctx} {h : GH} {c : Cfg} {f : FuncId} {svs : List SV1} {d : Option Nat} (hc : callView c = some ⟨f, svs, d, none⟩) (he : enters C.P f = true) (hd : dstOk C.n d = true)
    (hk : ∀ β w tmps l, Sim C.hE C.w0 C.inc C.n c.s h β w tmps → SV1sOk c.s.nb β svs l → Calls C.P f l.toArray w fun e w' => ∃ v, e = .returned v ∧
      ∃ h' s' β' sv, Sim C.hE C.w0 C.inc C.n s' h' β' w' tmps ∧ (∀ tmps', SVOk s'.nb β' tmps' sv v) ∧ G C h' (afterOp (withS c s') sv)) : G C h c := by
  intro β w tmps hS
  obtain ⟨todo, s⟩ := c
  unfold callView at hc
  simp only at hc
  split at hc
  · rename_i ops i rest k
    split at hc
    · rename_i o ho
      split at hc
      · rename_i x args types hop
        split at hc
        · rename_i hg
          split at hc
          · rename_i f' a b vs hx hv
            simp only [Option.some.injEq, CallView.mk.injEq] at hc
            obtain ⟨rfl, rfl, rfl, -⟩ := hc
            obtain ⟨l, hl, hrun⟩ := run_callS hS GOk.nil hop hx hv he
            refine Reach.call ho (by simp [Region.wanted, hg]) hrun ((hk β w tmps l hS hl).mono ?_)
            rintro e w' ⟨v, rfl, h', s', β', sv, hS', hsv, hG⟩
            refine ⟨v, rfl, ?_⟩
            rw [put_tmps]
            have := hG β' w' (match o.dst with | some d => tmps.setIfInBounds d v | none => tmps)
            simp only [afterOp, withS, ho, Option.bind_some] at this
            refine this ?_
            cases hdst : o.dst with
            | none => exact hS'
            | some d =>
              rw [hdst] at hd
              exact hS'.put (Nat.le_of_ble_eq_true hd) (hsv _)
          · simp at hc
        · split at hc
          · split at hc
            · simp at hc
            · simp at hc
          · simp at hc
      · simp at hc
    · simp at hc
  · simp at hc

/-- A call of a function that leaves what was there as it was; its arguments are plain values. -/
theorem G.callP {C : Ctx} {h : GH} {c : Cfg} {f : FuncId} {svs : List SV1} {d : Option Nat} (hc : callView c = some ⟨f, svs, d, none⟩) (vals : List Value) (hv : svVals svs = some vals) (he : enters C.P f = true) (hd : dstOk C.n d = true)
    (Q : GH → Value → Prop) (hcall : ∀ w, Sub h w → Calls C.P f vals.toArray w fun e w' => ∃ v h', e = .returned v ∧ Grow h w h' w' ∧ Q h' v)
    (hk : ∀ h' v, Q h' v → GLe h h' → ∃ sv, (∀ N β tmps, SVOk N β tmps sv v) ∧ G C h' (afterOp c sv)) : G C h c := by
  refine G.callX hc he hd fun β w tmps l hS hl => ?_
  rw [svVals_ok hv hl]
  refine (hcall w hS.sub).mono ?_
  rintro e w' ⟨v, h', rfl, hg, hq⟩
  obtain ⟨sv, h1, h2⟩ := hk h' v hq hg.le
  exact ⟨v, rfl, h', c.s, β, sv, hS.grow hg, fun tmps' => h1 _ _ _, h2⟩

/-- A call whose result is one plain value that is known. -/
theorem G.callV {C : Ctx} {h : GH} {c : Cfg} {f : FuncId} {svs : List SV1} {d : Option Nat} (hc : callView c = some ⟨f, svs, d, none⟩) (vals : List Value) (v : Value) (hv : svVals svs = some vals) (he : enters C.P f = true) (hd : dstOk C.n d = true)
    (hcall : ∀ w, Sub h w → Calls C.P f vals.toArray w fun e w' => e = .returned v ∧ Below w.heap.size w w') (hk : G C h (afterOp c (.ofV v))) : G C h c := by
  refine G.callP hc vals hv he hd (fun h' u => h' = h ∧ u = v) (fun w hs => (hcall w hs).mono ?_) ?_
  · rintro e w' ⟨rfl, hb⟩
    exact ⟨v, h, rfl, .of_below hs hb, rfl, rfl⟩
  · rintro h' u ⟨rfl, rfl⟩ _
    exact ⟨.ofV u, fun N β tmps => SVofV_ok N β tmps u, hk⟩

/-- Which truth value does a slot hold? -/
def boolAt (s : S) (t : Nat) : Option Bool :=
  match lk t s.slots with
  | .one (.atom (.bool b)) => some b
  | .gd _ _ (.atom (.bool b)) => some b
  | _ => none

theorem boolAt_ok {hE : GH} {w0 : World} {inc : List Nat} {n : Nat} {s : S} {h : GH} {β : Nat → Nat} {w : World} {tmps : Array Value} (hS : Sim hE w0 inc n s h β w tmps) {t : Nat} {b want : Bool} (hb : boolAt s t = some b) (ht : tmps.getD t undef = .bool want) : b = want := by
  have hs := hS.slots t
  unfold boolAt at hb
  split at hb
  · rename_i b' hl
    rw [hl] at hs
    simp only [Option.some.injEq] at hb; subst hb
    simp only [SVOk, SV1Ok, CellOk] at hs
    rw [ht] at hs; injection hs with hs; exact hs.symm
  · rename_i b' hl
    rw [hl] at hs
    simp only [Option.some.injEq] at hb; subst hb
    rcases hs with ⟨_, hs⟩ | ⟨_, hs⟩
    · simp only [SV1Ok, CellOk] at hs
      rw [ht] at hs; injection hs with hs; exact hs.symm
    · rw [ht] at hs; simp [undef] at hs
  · simp at hb

/-- What a guard tells: a structure, so that nothing looks into it. -/
structure guardSays (s : S) (g : Option (Nat × Bool)) (p : Prop) : Prop where
  says : ∀ tg want b, g = some (tg, want) → boolAt s tg = some b → b = want → p
  bare : (g = none ∨ ∃ tg want, g = some (tg, want) ∧ boolAt s tg = none) → p

theorem guardSays_use {hE : GH} {w0 : World} {inc : List Nat} {n : Nat} {s : S} {h : GH} {β : Nat → Nat} {w : World} {tmps : Array Value} (hS : Sim hE w0 inc n s h β w tmps) {tg : Nat} {want : Bool} {p : Prop} (hp : guardSays s (some (tg, want)) p) (ht : tmps.getD tg undef = .bool want) : p := by
  cases hb : boolAt s tg with
  | none => exact hp.bare (.inr ⟨tg, want, rfl, hb⟩)
  | some b => exact hp.says tg want b rfl hb (boolAt_ok hS hb ht)

theorem says_of {s : S} {g : Option (Nat × Bool)} {p : Prop} (h : p) : guardSays s g p := ⟨fun _ _ _ _ _ _ => h, fun _ => h⟩

theorem says_if {s : S} {tg : Nat} {want : Bool} {p : Prop} (b : Bool) (hb : boolAt s tg = some b) (h : b = want → p) : guardSays s (some (tg, want)) p :=
  ⟨fun tg' want' b' e hb' hw => by
    simp only [Option.some.injEq, Prod.mk.injEq] at e
    obtain ⟨rfl, rfl⟩ := e
    rw [hb] at hb'; injection hb' with hb'; subst hb'
    exact h hw, fun hn => by
    rcases hn with hn | ⟨tg', want', e, hb'⟩
    · cases hn
    · simp only [Option.some.injEq, Prod.mk.injEq] at e
      obtain ⟨rfl, rfl⟩ := e
      rw [hb] at hb'; cases hb'⟩

/-- A call under a guard, whose result is one plain value that is known. -/
theorem G.callGV {C : Ctx} {h : GH} {c : Cfg} {f : FuncId} {svs : List SV1} {d tg : Nat} {want : Bool} (hc : callView c = some ⟨f, svs, some d, some (tg, want)⟩) (vals : List Value) (v : Value) (hv : svVals svs = some vals) (he : enters C.P f = true)
    (hd : (Nat.blt d C.n && Nat.blt tg C.n && !(Nat.beq tg d)) = true) 
    (hcall : guardSays c.s (some (tg, want)) (∀ w, Sub h w → Calls C.P f vals.toArray w fun e w' => e = .returned v ∧ Below w.heap.size w w')) (hk : G C h (afterOp c (.gd tg want (.ofV v)))) : G C h c := by
  intro β w tmps hS
  obtain ⟨todo, s⟩ := c
  simp only [Bool.and_eq_true, Bool.not_eq_true'] at hd
  have hd1 : d < C.n := Nat.le_of_ble_eq_true hd.1.1
  have htg : tg < C.n := Nat.le_of_ble_eq_true hd.1.2
  have hne : d ≠ tg := fun e => by have := hd.2; rw [e, Nat.beq_refl] at this; cases this
  unfold callView at hc
  simp only at hc
  split at hc
  · rename_i ops i rest k
    split at hc
    · rename_i o ho
      split at hc
      · rename_i x args types hop
        split at hc
        · split at hc
          · simp at hc
          · simp at hc
        · rename_i j want' hg
          split at hc
          · rename_i tg' hj
            split at hc
            · rename_i f' a b' vs hx hv'
              simp only [Option.some.injEq, CallView.mk.injEq, Prod.mk.injEq] at hc
              obtain ⟨rfl, rfl, hdst, rfl, rfl⟩ := hc
              have hwi := wanted_of (tmps := tmps) hg hj (by rw [hS.size]; exact htg)
              by_cases hwt : Region.wanted o (yielded ops tmps) = true
              · have htrue := hwi.1 hwt
                obtain ⟨l, hl, hrun⟩ := run_callS hS (chain_ok hS 4 tg' want' htrue) hop hx hv' he
                refine Reach.call ho hwt hrun ?_
                rw [svVals_ok hv hl]
                refine (guardSays_use hS hcall htrue w hS.sub).mono ?_
                rintro e w' ⟨rfl, h2⟩
                refine ⟨v, rfl, ?_⟩
                rw [put_tmps, hdst]
                have := hk β w' (tmps.setIfInBounds d v)
                simp only [afterOp, ho, Option.bind_some, hdst] at this
                refine this ((hS.grow (.of_below hS.sub h2)).put hd1 (.inl ⟨?_, SV1ofV_ok _ _ _⟩))
                rw [getD_set_other hne]; exact htrue
              · have hfalse : tmps.getD tg' undef ≠ .bool want' := fun e => hwt (hwi.2 e)
                refine Reach.unwanted ho (by simpa using hwt) ?_
                rw [put_tmps, hdst]
                have := hk β w (tmps.setIfInBounds d undef)
                simp only [afterOp, ho, Option.bind_some, hdst] at this
                refine this (hS.put hd1 (.inr ⟨?_, rfl⟩))
                rw [getD_set_other hne]; exact hfalse
            · simp at hc
          · simp at hc
      · simp at hc
    · simp at hc
  · simp at hc

/-! ### Branches -/

def condAt (c : Cfg) : Option Bool :=
  match c.todo with
  | .code (.cond x _ _) :: _ => match evS c.s [] x with
    | some (.atom (.bool b)) => some b
    | _ => none
  | _ => none

def branch (c : Cfg) (b : Bool) : Cfg :=
  match c.todo with
  | .code (.cond _ x y) :: k => ⟨.code (match b with | true => x | false => y) :: k, c.s⟩
  | _ => c

theorem G.cond {C : Ctx} {h : GH} {c : Cfg} (b : Bool) (hc : condAt c = some b) (ht : b = true → G C h (branch c true)) (hf : b = false → G C h (branch c false)) : G C h c := by
  intro β w tmps hS
  obtain ⟨todo, s⟩ := c
  unfold condAt at hc
  simp only at hc
  split at hc
  · rename_i x A B k
    split at hc
    · rename_i b' hx
      simp only [Option.some.injEq] at hc; subst hc
      have hp := evS_atom hS GOk.nil hx
      simp only [CellOk] at hp
      have hstep : ∀ cs, Go.step C.P (lone (fr0 C.f tmps (.code (.cond x A B) :: k)) cs w) = .next (lone (fr0 C.f tmps (.code (if b' then A else B) :: k)) cs w) := fun cs => by
        rw [fr0_at, fr0_at]; exact step_cond hp
      refine Reach.step hstep ?_
      cases b' with
      | true => exact ht rfl β w tmps hS
      | false => exact hf rfl β w tmps hS
    · simp at hc
  · simp at hc

theorem G.condT {C : Ctx} {h : GH} {c : Cfg} {b : Bool} (hc : condAt c = some b) (hb : b = true) (ht : G C h (branch c true)) : G C h c :=
  G.cond b hc (fun _ => ht) (fun e => by rw [hb] at e; cases e)
theorem G.condF {C : Ctx} {h : GH} {c : Cfg} {b : Bool} (hc : condAt c = some b) (hb : b = false) (hf : G C h (branch c false)) : G C h c :=
  G.cond b hc (fun e => by rw [hb] at e; cases e) (fun _ => hf)

/-! ### Returning -/

def resVals (P : Program) (s : S) : List ResultVar → Option (List Value)
  | [] => some []
  | .tmp t :: rest => match evS s [] (.tmp t) with
    | some v => match v.val, resVals P s rest with
      | some u, some us => some (u :: us)
      | _, _ => none
    | none => none
  | .cell a T :: rest => match evS s [] (.tmp a) with
    | some (.atom (.ptr k off)) => match bx k s.boxes with
      | some ⟨_, .lit _ cs⟩ => match loadS P T cs off with
        | some v => match v.val, resVals P s rest with
          | some u, some us => some (u :: us)
          | _, _ => none
        | none => none
      | _ => none
    | _ => none

def resSem (tmps : Array Value) : ResultVar → Sem Value
  | .tmp t => pure (tmps.getD t undef)
  | .cell a t => do loadVar t (← asAddr (tmps.getD a undef))

theorem results_eq (fn : Func) (tmps : Array Value) : results fn tmps = (do
    let vs ← fn.results.mapM (resSem tmps)
    pure (if h : vs.size = 1 then vs[0] else .tuple vs)) := rfl

theorem resVals_ok {P : Program} {hE : GH} {w0 : World} {inc : List Nat} {n : Nat} {s : S} {h : GH} {β : Nat → Nat} {w : World} {tmps : Array Value} (hS : Sim hE w0 inc n s h β w tmps) :
    ∀ (l : List ResultVar) (vs : List Value), resVals P s l = some vs → (l.mapM (resSem tmps)).run P w = .ok vs w := by
  intro l
  induction l with
  | nil => intro vs hv; simp [resVals] at hv; subst hv; simp
  | cons x l ih =>
    intro vs hv
    cases x with
    | cell a t =>
      simp only [resVals] at hv
      split at hv
      · rename_i k off hev
        split at hv
        · rename_i bi T' cs hb
          split at hv
          · rename_i v hld
            split at hv
            · rename_i u us h1 h2
              simp only [Option.some.injEq] at hv; subst hv
              have hp := evS_atom hS GOk.nil hev
              simp only [CellOk] at hp
              have hp' : tmps.getD a undef = .pointer (some ⟨β k, off, none⟩) := hp.1
              obtain ⟨arr, hh, hc⟩ := hS.box _ _ hb
              obtain ⟨m, d, hm, hd⟩ := loadS_some hld
              obtain ⟨x, hx, hrun⟩ := run_loadVar_heap hm hd hh hc hld
              have hxu := SV1.val_ok h1 hx
              subst hxu
              simp [List.mapM_cons, resSem, hp', asAddr, hrun w rfl, ih us h2]
            · simp at hv
          · simp at hv
        · simp at hv
      · simp at hv
    | tmp t =>
      simp only [resVals] at hv
      split at hv
      · rename_i v hev
        split at hv
        · rename_i u us h1 h2
          simp only [Option.some.injEq] at hv; subst hv
          have hu : tmps.getD t undef = u := SV1.val_ok h1 (evS_ok hS GOk.nil hev)
          simp [List.mapM_cons, resSem, hu, ih us h2]
        · simp at hv
      · simp at hv

def packVals : List Value → Value
  | [v] => v
  | vs => .tuple vs.toArray

def retVal (P : Program) (c : Cfg) (rs : List ResultVar) : Option Value :=
  match c.todo with
  | .code .ret :: _ => (resVals P c.s rs).map packVals
  | [] => (resVals P c.s rs).map packVals
  | _ => none

theorem results_of {P : Program} {fn : Func} {tmps : Array Value} {w : World} {vs : List Value} (hm : (fn.results.toList.mapM (resSem tmps)).run P w = .ok vs w) :
    (results fn tmps).run P w = .ok (packVals vs) w := by
  have hm' : (fn.results.mapM (resSem tmps)).run P w = .ok vs.toArray w := by
    rw [Array.mapM_eq_mapM_toList, Sem.run_map, hm]; rfl
  rw [results_eq, Sem.run_bind, hm']
  match vs with
  | [] => simp [packVals]
  | [v] => simp [packVals]
  | a :: b :: l => simp [packVals]

/-- The end of a call whose results are plain values. -/
theorem G.ret {C : Ctx} {h : GH} {c : Cfg} {fn : Func} {rs : Array ResultVar} (hf : C.P.funcs[C.f]? = some fn) (hrs : fn.results = rs) (v : Value) (hv : retVal C.P c rs.toList = some v)
    (H : ∀ w', Frm C.inc C.w0 w' → Sub h w' → C.R (.returned v) w') : G C h c := by
  intro β w tmps hS
  obtain ⟨todo, s⟩ := c
  subst hrs
  unfold retVal at hv
  simp only at hv
  split at hv
  · obtain ⟨vs, h1, rfl⟩ := map_some hv
    exact Reach.ret hf (results_of (resVals_ok hS _ _ h1)) (H w hS.frame hS.sub)
  · obtain ⟨vs, h1, rfl⟩ := map_some hv
    exact Reach.fall hf (results_of (resVals_ok hS _ _ h1)) (H w hS.frame hS.sub)
  · simp at hv

/-- The same, with what has become of memory in one word. -/
theorem G.retG {C : Ctx} {h : GH} {c : Cfg} {fn : Func} {rs : Array ResultVar} (hf : C.P.funcs[C.f]? = some fn) (hrs : fn.results = rs) (v : Value) (hv : retVal C.P c rs.toList = some v) (hinc : C.inc = [])
    (H : ∀ w', Grow C.hE C.w0 h w' → C.R (.returned v) w') : G C h c := by
  intro β w tmps hS
  have hg : Grow C.hE C.w0 h w := ⟨(show Frm [] C.w0 w by rw [← hinc]; exact hS.frame).below, hS.gle, fun b hb => hS.gold b hb (by rw [hinc]; simp), hS.ghost⟩
  obtain ⟨todo, s⟩ := c
  subst hrs
  unfold retVal at hv
  simp only at hv
  split at hv
  · obtain ⟨vs, h1, rfl⟩ := map_some hv
    exact Reach.ret hf (results_of (resVals_ok hS _ _ h1)) (H w hg)
  · obtain ⟨vs, h1, rfl⟩ := map_some hv
    exact Reach.fall hf (results_of (resVals_ok hS _ _ h1)) (H w hg)
  · simp at hv
end Go.Proofs.Ytkjahaoobdbffaa
