/- Merged: B7 B8 B9 B10 -/
import Derived.Test.YtkjahaoobdbffaaX1

/- The base of this seat's proofs, seventh part: entering, calls, branches, loops, returning. -/
namespace Go.Proofs.Ytkjahaoobdbffaa
open Go Go.RowKit

def Sub (h : GH) (w : World) : Prop := ∀ b o, h b = some o → w.heap[b]? = some o
def GLe (h h' : GH) : Prop := ∀ b o, h b = some o → h' b = some o
theorem GLe.refl (h : GH) : GLe h h := fun _ _ e => e
theorem GLe.trans {a b c : GH} (h : GLe a b) (k : GLe b c) : GLe a c := fun x o e => k x o (h x o e)

/-- The world has grown, and with it what nobody writes any more. -/
structure Grow (h : GH) (w : World) (h' : GH) (w' : World) : Prop where
  below : Below w.heap.size w w'
  le : GLe h h'
  old : ∀ b, b < w.heap.size → h' b = h b
  sub : Sub h' w'

theorem Grow.of_below {h : GH} {w w' : World} (hs : Sub h w) (hb : Below w.heap.size w w') : Grow h w h w' :=
  ⟨hb, GLe.refl h, fun _ _ => rfl, fun b o e => by have := hs b o e; rw [hb.block b (Array.getElem?_eq_some_iff.1 this).1]; exact this⟩

theorem Grow.trans {h h1 h2 : GH} {w w1 w2 : World} (a : Grow h w h1 w1) (b : Grow h1 w1 h2 w2) : Grow h w h2 w2 :=
  ⟨a.below.trans (b.below.mono a.below.size), a.le.trans b.le, fun x hx => (b.old x (Nat.lt_of_lt_of_le hx a.below.size)).trans (a.old x hx), b.sub⟩

theorem Sim.sub {hE : GH} {w0 : World} {inc : List Nat} {n : Nat} {s : S} {h : GH} {β : Nat → Nat} {w : World} {tmps : Array Value} (hS : Sim hE w0 inc n s h β w tmps) : Sub h w := hS.ghost

theorem Sim.grow {hE : GH} {w0 : World} {inc : List Nat} {n : Nat} {s : S} {h h' : GH} {β : Nat → Nat} {w w' : World} {tmps : Array Value} (hS : Sim hE w0 inc n s h β w tmps) (hg : Grow h w h' w') : Sim hE w0 inc n s h' β w' tmps where
  size := hS.size
  slots := hS.slots
  box k b hb := (hS.box k b hb).of_block (hg.below.block _ (hS.box k b hb).lt)
  inj := hS.inj
  keys := hS.keys
  fresh := hS.fresh
  ghost := hg.sub
  gno k b hb := by rw [hg.old _ (hS.box k b hb).lt]; exact hS.gno k b hb
  frame := hS.frame.trans (Frm.of_below hg.below inc)
  gle b o hb := hg.le b o (hS.gle b o hb)
  gold b hb hn := (hg.old b (Nat.lt_of_lt_of_le hb hS.frame.size)).trans (hS.gold b hb hn)
  own k o ho := ownsRow_of_block (hS.own k o ho) fun b hb => hg.below.block b (ownsRow_lt (hS.own k o ho) hb)
  ownB k o b ho hb := by
    obtain ⟨h1, h2, h3⟩ := hS.ownB k o b ho hb
    exact ⟨by rw [hg.old b (ownsRow_lt (hS.own k o ho) hb)]; exact h1, h2, h3⟩
  ownI := hS.ownI

def Cell.val : Cell → Option Value
  | .raw v => some v
  | .int k n => some (.int k n)
  | .bool b => some (.bool b)
  | .str s => some (.string s)
  | .sl v _ => some v
  | _ => none

def cellVals : List Cell → Option (List Value)
  | [] => some []
  | c :: cs => match c.val, cellVals cs with
    | some v, some vs => some (v :: vs)
    | _, _ => none

def SV1.val : SV1 → Option Value
  | .atom c => c.val
  | .agg cs => match cellVals cs with
    | some vs => some (.agg vs.toArray)
    | none => none

def svVals : List SV1 → Option (List Value)
  | [] => some []
  | c :: cs => match c.val, svVals cs with
    | some v, some vs => some (v :: vs)
    | _, _ => none

theorem Cell.val_ok {N : Nat} {β : Nat → Nat} {c : Cell} {v u : Value} (h : c.val = some v) (hu : CellOk N β c u) : u = v := by
  cases c <;> simp [Cell.val] at h <;> simp only [CellOk] at hu
  case raw => rw [← h]; exact hu.1
  case sl => rw [← h]; exact hu.1
  all_goals rw [← h]; exact hu

theorem cellVals_ok {N : Nat} {β : Nat → Nat} {cs : List Cell} {vs us : List Value} (h : cellVals cs = some vs) (hu : CellsOk N β cs us) : us = vs := by
  induction cs generalizing vs us with
  | nil => cases us <;> simp_all [CellsOk, cellVals]
  | cons c cs ih => cases us with
    | nil => simp [CellsOk] at hu
    | cons u us =>
      simp only [cellVals] at h
      split at h
      · rename_i v vs' h1 h2
        simp only [Option.some.injEq] at h; subst h
        rw [Cell.val_ok h1 hu.1, ih h2 hu.2]
      · simp at h

theorem SV1.val_ok {N : Nat} {β : Nat → Nat} {c : SV1} {v u : Value} (h : c.val = some v) (hu : SV1Ok N β c u) : u = v := by
  cases c with
  | atom c => exact Cell.val_ok h hu
  | agg cs =>
    obtain ⟨arr, rfl, hc⟩ := hu
    simp only [SV1.val] at h
    split at h
    · rename_i vs hvs
      simp only [Option.some.injEq] at h; subst h
      rw [← cellVals_ok hvs hc]
    · simp at h

theorem svVals_ok {N : Nat} {β : Nat → Nat} {cs : List SV1} {vs us : List Value} (h : svVals cs = some vs) (hu : SV1sOk N β cs us) : us = vs := by
  induction cs generalizing vs us with
  | nil => cases us <;> simp_all [SV1sOk, svVals]
  | cons c cs ih => cases us with
    | nil => simp [SV1sOk] at hu
    | cons u us =>
      simp only [svVals] at h
      split at h
      · rename_i v vs' h1 h2
        simp only [Option.some.injEq] at h; subst h
        rw [SV1.val_ok h1 hu.1, ih h2 hu.2]
      · simp at h

def SV.ofV : Value → SV
  | .tuple arr => .tup (arr.toList.map SV1.ofV)
  | v => .one (SV1.ofV v)

theorem SV1sOk_map (N : Nat) (β : Nat → Nat) (l : List Value) : SV1sOk N β (l.map SV1.ofV) l := by
  induction l with
  | nil => trivial
  | cons v l ih => exact ⟨SV1ofV_ok N β v, ih⟩

theorem SVofV_ok (N : Nat) (β : Nat → Nat) (tmps : Array Value) (v : Value) : SVOk N β tmps (SV.ofV v) v := by
  cases v <;> first | exact ⟨_, rfl, SV1sOk_map N β _⟩ | (simp only [SV.ofV, SVOk]; exact SV1ofV_ok N β _)

/-! ### Entering -/

def number : Nat → List SV1 → List (Nat × SV)
  | _, [] => []
  | i, v :: vs => (i, .one v) :: number (i + 1) vs

theorem lkAux_number (t : Nat) : ∀ (vs : List SV1) (i : Nat) (newer : List Nat), i ≤ t → lkAux t newer (number i vs) = match vs[t - i]? with | some v => .one v | none => anyS := by
  intro vs
  induction vs with
  | nil => intro i newer _; simp [number, lkAux]
  | cons v vs ih =>
    intro i newer hi
    simp only [number, lkAux]
    by_cases h : i = t
    · subst h; simp
    · have hb : Nat.beq i t = false := by
        cases hb : Nat.beq i t
        · rfl
        · exact absurd (Nat.eq_of_beq_eq_true hb) h
      rw [hb]
      simp only [Bool.false_eq_true, if_false]
      rw [ih (i + 1) _ (by omega)]
      have : t - i = (t - (i + 1)) + 1 := by omega
      rw [this]; simp

theorem Sim.enter {w : World} {h : GH} {svs : List SV1} {args : Array Value} {β : Nat → Nat} {n N : Nat} {boxes : List (Nat × Box)} {owns : List (Nat × Own)} {inc : List Nat} (hargs : SV1sOk N β svs args.toList) (hn : args.size ≤ n) (hs : Sub h w)
    (box : ∀ k b, bx k boxes = some b → BoxOk N β w (β k) b.body) (inj : ∀ k l b c, bx k boxes = some b → bx l boxes = some c → k ≠ l → β k ≠ β l) (keys : ∀ k b, bx k boxes = some b → k < N)
    (fresh : ∀ k b, bx k boxes = some b → match b.inc with | some m => β k = m ∧ (m ∈ inc ∨ w.heap.size ≤ m) | none => w.heap.size ≤ β k) (gno : ∀ k b, bx k boxes = some b → h (β k) = none)
    (own : ∀ k o, ow k owns = some o → w.ownsRow 0 o.e o.sz o.v o.n o.xs) (ownB : ∀ k o b, ow k owns = some o → o.v.ownBlock = some b → h b = none ∧ (∀ j x, bx j boxes = some x → β j ≠ b) ∧ (b ∈ inc ∨ w.heap.size ≤ b))
    (ownI : ∀ k l o p b, ow k owns = some o → ow l owns = some p → k ≠ l → o.v.ownBlock = some b → p.v.ownBlock ≠ some b) :
    Sim h w inc n ⟨number 0 svs, boxes, N, owns⟩ h β w (args ++ Array.replicate (n - args.size) undef) where
  size := by simp; omega
  slots t := by
    show SVOk N β _ (lk t (number 0 svs)) _
    unfold lk
    rw [lkAux_number t svs 0 [] (Nat.zero_le _)]
    simp only [Nat.sub_zero]
    cases hv : svs[t]? with
    | none => trivial
    | some v =>
      obtain ⟨u, h1, h2⟩ := hargs.get hv
      have h1' : args[t]? = some u := by simpa using h1
      have hlt : t < args.size := (Array.getElem?_eq_some_iff.1 h1').1
      have : (args ++ Array.replicate (n - args.size) undef).getD t undef = u := by
        rw [Array.getD_eq_getD_getElem?, Array.getElem?_append_left hlt, h1']; rfl
      rw [this]; exact h2
  box := box
  inj := inj
  keys := keys
  fresh := fresh
  ghost := hs
  gno := gno
  frame := Frm.refl _ _
  gle := GLe.refl h
  gold _ _ _ := rfl
  own := own
  ownB := ownB
  ownI := ownI

theorem Calls.of_reach {P : Program} {f : FuncId} {fn : Func} {c : Code} {args : Array Value} {w : World} {inc : List Nat} {R : Ending → World → Prop} {hE : GH} (hf : P.funcs[f]? = some fn) (hb : fn.body = some c)
    (h : Reach ⟨P, f, hE, w, inc, fn.ntmps, R⟩ (args ++ Array.replicate (fn.ntmps - args.size) undef) [.code c] w) : Calls P f args w R := by
  intro cs
  have henter : Frame.enter P f args .normal = fr0 f (args ++ Array.replicate (fn.ntmps - args.size) undef) [.code c] := by
    simp [Frame.enter, fr0, hf, hb]
  rw [henter]
  exact h cs

/-- A call whose arguments are plain values. -/
theorem Calls.enter {P : Program} {f : FuncId} {fn : Func} {c : Code} {w : World} {R : Ending → World → Prop} {h : GH} {n : Nat} (svs : List SV1) {args : Array Value} (hf : P.funcs[f]? = some fn) (hb : fn.body = some c) (hnt : fn.ntmps = n)
    (hargs : SV1sOk 0 (fun _ => 0) svs args.toList) (hn : args.size ≤ n) (hs : Sub h w) (hG : G ⟨P, f, h, w, [], n, R⟩ h ⟨[.code c], ⟨number 0 svs, [], 0, []⟩⟩) : Calls P f args w R := by
  subst hnt
  refine Calls.of_reach (inc := []) hf hb (hG (fun _ => 0) w _ ?_)
  exact Sim.enter hargs hn hs (fun k b hk => by cases hk) (fun k l b c hk => by cases hk) (fun k b hk => by cases hk) (fun k b hk => by cases hk) (fun k b hk => by cases hk) (fun k o ho => by cases ho) (fun k o b ho => by cases ho) (fun k l o p b ho => by cases ho)

/-! ### Calls -/

def evArgs (s : S) (g : List (Nat × Bool)) : List Operand → Option (List SV1)
  | [] => some []
  | x :: xs => match evS s g x, evArgs s g xs with
    | some v, some vs => some (v :: vs)
    | _, _ => none

theorem evArgs_ok {hE : GH} {w0 : World} {inc : List Nat} {n : Nat} {s : S} {h : GH} {β : Nat → Nat} {w : World} {tmps : Array Value} (hS : Sim hE w0 inc n s h β w tmps) {g : List (Nat × Bool)} (hg : GOk tmps g) :
    ∀ (l : List Operand) (vs : List SV1), evArgs s g l = some vs → SV1sOk s.nb β vs (l.map (evT tmps)) := by
  intro l
  induction l with
  | nil => intro vs hv; simp [evArgs] at hv; subst hv; trivial
  | cons x l ih =>
    intro vs hv
    simp only [evArgs] at hv
    split at hv
    · rename_i v vs' h1 h2
      simp only [Option.some.injEq] at hv; subst hv
      exact ⟨evS_ok hS hg h1, ih vs' h2⟩
    · simp at hv

/-- Whom a callee's operand calls, with what in front of the arguments and behind them. -/
def calleeS (s : S) (g : List (Nat × Bool)) (x : Operand) : Option (FuncId × List SV1 × List SV1) :=
  match evS s g x with
  | some (.atom (.raw (.func (.func f) first captured))) => some (f, first.toList.map SV1.ofV, captured.toList.map SV1.ofV)
  | some (.atom (.clo f true k off)) => some (f, [.atom (.ptr k off)], [])
  | some (.atom (.clo f false k off)) => some (f, [], [.atom (.ptr k off)])
  | _ => none

structure CallView where
  f : FuncId
  args : List SV1
  dst : Option Nat
  guard : Option (Nat × Bool)

/-- The operation at which the runner stands, where it is a call of a Go function. -/
def callView (c : Cfg) : Option CallView :=
  match c.todo with
  | .inRegion ops (i :: _) :: _ => match ops[i]? with
    | some o => match o.op with
      | .call ⟨.value x, args, _⟩ => match o.guard with
        | none => match calleeS c.s [] x, evArgs c.s [] args.toList with
          | some (f, a, b), some vs => some ⟨f, a ++ vs ++ b, o.dst, none⟩
          | _, _ => none
        | some (j, want) => match (ops[j]?).bind (·.dst) with
          | some tg => match calleeS c.s (chain c.s 4 tg want) x, evArgs c.s (chain c.s 4 tg want) args.toList with
            | some (f, a, b), some vs => some ⟨f, a ++ vs ++ b, o.dst, some (tg, want)⟩
            | _, _ => none
          | none => none
      | _ => none
    | none => none
  | _ => none

/-- Behind the operation at which the runner stands. -/
def afterOp (c : Cfg) (sv : SV) : Cfg :=
  match c.todo with
  | .inRegion ops (i :: rest) :: k => ⟨.inRegion ops rest :: k, putS c.s ((ops[i]?).bind (·.dst)) sv⟩
  | _ => c

/-- The same, what is known of memory being another thing. -/
def withS (c : Cfg) (s : S) : Cfg := ⟨c.todo, s⟩

def dstOk (n : Nat) : Option Nat → Bool
  | some d => Nat.blt d n
  | none => true

/-- Is the function one that is entered? -/
def enters (P : Program) (f : FuncId) : Bool :=
  match P.funcs[f]? with
  | some fn => fn.name != "runtime.NumGoroutine" && fn.body.isSome
  | none => false

theorem run_callFunc {P : Program} {f : FuncId} (he : enters P f = true) (args : Array Value) (w : World) : (callFunc f args).run P w = .ok (.enter f args) w := by
  unfold enters at he
  split at he
  · rename_i fn hf
    simp only [Bool.and_eq_true, bne_iff_ne, ne_eq] at he
    have h1 : ¬ fn.name = "runtime.NumGoroutine" := he.1
    have h2 : ¬ fn.body = none := by intro hb; rw [hb] at he; simp at he
    simp [callFunc, hf, h1, h2]
  · simp at he

theorem run_callS {P : Program} {hE : GH} {w0 : World} {inc : List Nat} {n : Nat} {s : S} {h : GH} {β : Nat → Nat} {w : World} {tmps : Array Value} (hS : Sim hE w0 inc n s h β w tmps) {g : List (Nat × Bool)} (hg : GOk tmps g)
    {o : Oper} {x : Operand} {args : Array Operand} {types : Array TypeId} (ho : o.op = .call ⟨.value x, args, types⟩) {f : FuncId} {a b vs : List SV1} (hx : calleeS s g x = some (f, a, b)) (hv : evArgs s g args.toList = some vs) (he : enters P f = true) :
    ∃ l : List Value, SV1sOk s.nb β (a ++ vs ++ b) l ∧ (execOp (evT tmps) o).run P w = .ok (.enter f l.toArray) w := by
  have hvs := evArgs_ok hS hg _ _ hv
  have happ : ∀ {cs ds : List SV1} {us ws : List Value}, SV1sOk s.nb β cs us → SV1sOk s.nb β ds ws → SV1sOk s.nb β (cs ++ ds) (us ++ ws) := by
    intro cs ds us ws h1 h2
    induction cs generalizing us with
    | nil => cases us <;> simp_all [SV1sOk]
    | cons c cs ih => cases us with
      | nil => simp [SV1sOk] at h1
      | cons u us => exact ⟨h1.1, ih h1.2⟩
  unfold calleeS at hx
  split at hx
  · rename_i f' first captured hev
    simp only [Option.some.injEq, Prod.mk.injEq] at hx
    obtain ⟨rfl, rfl, rfl⟩ := hx
    have hp := evS_atom hS hg hev
    simp only [CellOk] at hp
    refine ⟨first.toList ++ args.toList.map (evT tmps) ++ captured.toList, happ (happ (SV1sOk_map _ _ _) hvs) (SV1sOk_map _ _ _), ?_⟩
    have hl : (first.toList ++ args.toList.map (evT tmps) ++ captured.toList).toArray = first ++ args.map (evT tmps) ++ captured := by apply Array.ext'; simp
    rw [hl]
    simp [execOp, ho, resolve, hp.1, Deferred.ofValue, invoke, run_callFunc he]
  · rename_i f' k off hev
    simp only [Option.some.injEq, Prod.mk.injEq] at hx
    obtain ⟨rfl, rfl, rfl⟩ := hx
    have hp := evS_atom hS hg hev
    simp only [CellOk, if_true] at hp
    refine ⟨[Value.pointer (some ⟨β k, off, none⟩)] ++ args.toList.map (evT tmps) ++ [], happ (happ ⟨⟨rfl, hp.2⟩, trivial⟩ hvs) trivial, ?_⟩
    have hl : ([Value.pointer (some ⟨β k, off, none⟩)] ++ args.toList.map (evT tmps) ++ []).toArray = #[Value.pointer (some ⟨β k, off, none⟩)] ++ args.map (evT tmps) ++ #[] := by apply Array.ext'; simp
    rw [hl]
    simp [execOp, ho, resolve, hp.1, Deferred.ofValue, invoke, run_callFunc he]
  · rename_i f' k off hev
    simp only [Option.some.injEq, Prod.mk.injEq] at hx
    obtain ⟨rfl, rfl, rfl⟩ := hx
    have hp := evS_atom hS hg hev
    simp only [CellOk, Bool.false_eq_true, if_false] at hp
    refine ⟨[] ++ args.toList.map (evT tmps) ++ [.pointer (some ⟨β k, off, none⟩)], happ (happ (cs := []) (us := []) trivial hvs) ⟨⟨rfl, hp.2⟩, trivial⟩, ?_⟩
    have hl : ([] ++ args.toList.map (evT tmps) ++ [Value.pointer (some ⟨β k, off, none⟩)]).toArray = #[] ++ args.map (evT tmps) ++ #[.pointer (some ⟨β k, off, none⟩)] := by apply Array.ext'; simp
    rw [hl]
    simp [execOp, ho, resolve, hp.1, Deferred.ofValue, invoke, run_callFunc he]
  · simp at hx

/-- **A call**, in its widest form. -/
theorem G.callX {C : Ctx} {h : GH} {c : Cfg} {f : FuncId} {svs : List SV1} {d : Option Nat} (hc : callView c = some ⟨f, svs, d, none⟩) (he : enters C.P f = true) (hd : dstOk C.n d = true)
    (hk : ∀ β w tmps l, Sim C.hE C.w0 C.inc C.n c.s h β w tmps → SV1sOk c.s.nb β svs l → Calls C.P f l.toArray w fun e w' => ∃ v, e = .returned v ∧
      ∃ h' s' β' sv, Sim C.hE C.w0 C.inc C.n s' h' β' w' tmps ∧ (∀ tmps', SVOk s'.nb β' tmps' sv v) ∧ G C h' (afterOp (withS c s') sv)) : G C h c := by
  intro β w tmps hS
  obtain ⟨todo, s⟩ := c
  unfold callView at hc
  simp only at hc
  split at hc
  · rename_i ops i rest k
    split at hc
    · rename_i o ho
      split at hc
      · rename_i x args types hop
        split at hc
        · rename_i hg
          split at hc
          · rename_i f' a b vs hx hv
            simp only [Option.some.injEq, CallView.mk.injEq] at hc
            obtain ⟨rfl, rfl, rfl, -⟩ := hc
            obtain ⟨l, hl, hrun⟩ := run_callS hS GOk.nil hop hx hv he
            refine Reach.call ho (by simp [Region.wanted, hg]) hrun ((hk β w tmps l hS hl).mono ?_)
            rintro e w' ⟨v, rfl, h', s', β', sv, hS', hsv, hG⟩
            refine ⟨v, rfl, ?_⟩
            rw [put_tmps]
            have := hG β' w' (match o.dst with | some d => tmps.setIfInBounds d v | none => tmps)
            simp only [afterOp, withS, ho, Option.bind_some] at this
            refine this ?_
            cases hdst : o.dst with
            | none => exact hS'
            | some d =>
              rw [hdst] at hd
              exact hS'.put (Nat.le_of_ble_eq_true hd) (hsv _)
          · simp at hc
        · split at hc
          · split at hc
            · simp at hc
            · simp at hc
          · simp at hc
      · simp at hc
    · simp at hc
  · simp at hc

/-- A call of a function that leaves what was there as it was; its arguments are plain values. -/
theorem G.callP {C : Ctx} {h : GH} {c : Cfg} {f : FuncId} {svs : List SV1} {d : Option Nat} (hc : callView c = some ⟨f, svs, d, none⟩) (vals : List Value) (hv : svVals svs = some vals) (he : enters C.P f = true) (hd : dstOk C.n d = true)
    (Q : GH → Value → Prop) (hcall : ∀ w, Sub h w → Calls C.P f vals.toArray w fun e w' => ∃ v h', e = .returned v ∧ Grow h w h' w' ∧ Q h' v)
    (hk : ∀ h' v, Q h' v → GLe h h' → ∃ sv, (∀ N β tmps, SVOk N β tmps sv v) ∧ G C h' (afterOp c sv)) : G C h c := by
  refine G.callX hc he hd fun β w tmps l hS hl => ?_
  rw [svVals_ok hv hl]
  refine (hcall w hS.sub).mono ?_
  rintro e w' ⟨v, h', rfl, hg, hq⟩
  obtain ⟨sv, h1, h2⟩ := hk h' v hq hg.le
  exact ⟨v, rfl, h', c.s, β, sv, hS.grow hg, fun tmps' => h1 _ _ _, h2⟩

/-- A call whose result is one plain value that is known. -/
theorem G.callV {C : Ctx} {h : GH} {c : Cfg} {f : FuncId} {svs : List SV1} {d : Option Nat} (hc : callView c = some ⟨f, svs, d, none⟩) (vals : List Value) (v : Value) (hv : svVals svs = some vals) (he : enters C.P f = true) (hd : dstOk C.n d = true)
    (hcall : ∀ w, Sub h w → Calls C.P f vals.toArray w fun e w' => e = .returned v ∧ Below w.heap.size w w') (hk : G C h (afterOp c (.ofV v))) : G C h c := by
  refine G.callP hc vals hv he hd (fun h' u => h' = h ∧ u = v) (fun w hs => (hcall w hs).mono ?_) ?_
  · rintro e w' ⟨rfl, hb⟩
    exact ⟨v, h, rfl, .of_below hs hb, rfl, rfl⟩
  · rintro h' u ⟨rfl, rfl⟩ _
    exact ⟨.ofV u, fun N β tmps => SVofV_ok N β tmps u, hk⟩

/-- Which truth value does a slot hold? -/
def boolAt (s : S) (t : Nat) : Option Bool :=
  match lk t s.slots with
  | .one (.atom (.bool b)) => some b
  | .gd _ _ (.atom (.bool b)) => some b
  | _ => none

theorem boolAt_ok {hE : GH} {w0 : World} {inc : List Nat} {n : Nat} {s : S} {h : GH} {β : Nat → Nat} {w : World} {tmps : Array Value} (hS : Sim hE w0 inc n s h β w tmps) {t : Nat} {b want : Bool} (hb : boolAt s t = some b) (ht : tmps.getD t undef = .bool want) : b = want := by
  have hs := hS.slots t
  unfold boolAt at hb
  split at hb
  · rename_i b' hl
    rw [hl] at hs
    simp only [Option.some.injEq] at hb; subst hb
    simp only [SVOk, SV1Ok, CellOk] at hs
    rw [ht] at hs; injection hs with hs; exact hs.symm
  · rename_i b' hl
    rw [hl] at hs
    simp only [Option.some.injEq] at hb; subst hb
    rcases hs with ⟨_, hs⟩ | ⟨_, hs⟩
    · simp only [SV1Ok, CellOk] at hs
      rw [ht] at hs; injection hs with hs; exact hs.symm
    · rw [ht] at hs; simp [undef] at hs
  · simp at hb

/-- What a guard tells: a structure, so that nothing looks into it. -/
structure guardSays (s : S) (g : Option (Nat × Bool)) (p : Prop) : Prop where
  says : ∀ tg want b, g = some (tg, want) → boolAt s tg = some b → b = want → p
  bare : (g = none ∨ ∃ tg want, g = some (tg, want) ∧ boolAt s tg = none) → p

theorem guardSays_use {hE : GH} {w0 : World} {inc : List Nat} {n : Nat} {s : S} {h : GH} {β : Nat → Nat} {w : World} {tmps : Array Value} (hS : Sim hE w0 inc n s h β w tmps) {tg : Nat} {want : Bool} {p : Prop} (hp : guardSays s (some (tg, want)) p) (ht : tmps.getD tg undef = .bool want) : p := by
  cases hb : boolAt s tg with
  | none => exact hp.bare (.inr ⟨tg, want, rfl, hb⟩)
  | some b => exact hp.says tg want b rfl hb (boolAt_ok hS hb ht)

theorem says_of {s : S} {g : Option (Nat × Bool)} {p : Prop} (h : p) : guardSays s g p := ⟨fun _ _ _ _ _ _ => h, fun _ => h⟩

theorem says_if {s : S} {tg : Nat} {want : Bool} {p : Prop} (b : Bool) (hb : boolAt s tg = some b) (h : b = want → p) : guardSays s (some (tg, want)) p :=
  ⟨fun tg' want' b' e hb' hw => by
    simp only [Option.some.injEq, Prod.mk.injEq] at e
    obtain ⟨rfl, rfl⟩ := e
    rw [hb] at hb'; injection hb' with hb'; subst hb'
    exact h hw, fun hn => by
    rcases hn with hn | ⟨tg', want', e, hb'⟩
    · cases hn
    · simp only [Option.some.injEq, Prod.mk.injEq] at e
      obtain ⟨rfl, rfl⟩ := e
      rw [hb] at hb'; cases hb'⟩

/-- A call under a guard, whose result is one plain value that is known. -/
theorem G.callGV {C : Ctx} {h : GH} {c : Cfg} {f : FuncId} {svs : List SV1} {d tg : Nat} {want : Bool} (hc : callView c = some ⟨f, svs, some d, some (tg, want)⟩) (vals : List Value) (v : Value) (hv : svVals svs = some vals) (he : enters C.P f = true)
    (hd : (Nat.blt d C.n && Nat.blt tg C.n && !(Nat.beq tg d)) = true) 
    (hcall : guardSays c.s (some (tg, want)) (∀ w, Sub h w → Calls C.P f vals.toArray w fun e w' => e = .returned v ∧ Below w.heap.size w w')) (hk : G C h (afterOp c (.gd tg want (.ofV v)))) : G C h c := by
  intro β w tmps hS
  obtain ⟨todo, s⟩ := c
  simp only [Bool.and_eq_true, Bool.not_eq_true'] at hd
  have hd1 : d < C.n := Nat.le_of_ble_eq_true hd.1.1
  have htg : tg < C.n := Nat.le_of_ble_eq_true hd.1.2
  have hne : d ≠ tg := fun e => by have := hd.2; rw [e, Nat.beq_refl] at this; cases this
  unfold callView at hc
  simp only at hc
  split at hc
  · rename_i ops i rest k
    split at hc
    · rename_i o ho
      split at hc
      · rename_i x args types hop
        split at hc
        · split at hc
          · simp at hc
          · simp at hc
        · rename_i j want' hg
          split at hc
          · rename_i tg' hj
            split at hc
            · rename_i f' a b' vs hx hv'
              simp only [Option.some.injEq, CallView.mk.injEq, Prod.mk.injEq] at hc
              obtain ⟨rfl, rfl, hdst, rfl, rfl⟩ := hc
              have hwi := wanted_of (tmps := tmps) hg hj (by rw [hS.size]; exact htg)
              by_cases hwt : Region.wanted o (yielded ops tmps) = true
              · have htrue := hwi.1 hwt
                obtain ⟨l, hl, hrun⟩ := run_callS hS (chain_ok hS 4 tg' want' htrue) hop hx hv' he
                refine Reach.call ho hwt hrun ?_
                rw [svVals_ok hv hl]
                refine (guardSays_use hS hcall htrue w hS.sub).mono ?_
                rintro e w' ⟨rfl, h2⟩
                refine ⟨v, rfl, ?_⟩
                rw [put_tmps, hdst]
                have := hk β w' (tmps.setIfInBounds d v)
                simp only [afterOp, ho, Option.bind_some, hdst] at this
                refine this ((hS.grow (.of_below hS.sub h2)).put hd1 (.inl ⟨?_, SV1ofV_ok _ _ _⟩))
                rw [getD_set_other hne]; exact htrue
              · have hfalse : tmps.getD tg' undef ≠ .bool want' := fun e => hwt (hwi.2 e)
                refine Reach.unwanted ho (by simpa using hwt) ?_
                rw [put_tmps, hdst]
                have := hk β w (tmps.setIfInBounds d undef)
                simp only [afterOp, ho, Option.bind_some, hdst] at this
                refine this (hS.put hd1 (.inr ⟨?_, rfl⟩))
                rw [getD_set_other hne]; exact hfalse
            · simp at hc
          · simp at hc
      · simp at hc
    · simp at hc
  · simp at hc

/-! ### Branches -/

def condAt (c : Cfg) : Option Bool :=
  match c.todo with
  | .code (.cond x _ _) :: _ => match evS c.s [] x with
    | some (.atom (.bool b)) => some b
    | _ => none
  | _ => none

def branch (c : Cfg) (b : Bool) : Cfg :=
  match c.todo with
  | .code (.cond _ x y) :: k => ⟨.code (match b with | true => x | false => y) :: k, c.s⟩
  | _ => c

theorem G.cond {C : Ctx} {h : GH} {c : Cfg} (b : Bool) (hc : condAt c = some b) (ht : b = true → G C h (branch c true)) (hf : b = false → G C h (branch c false)) : G C h c := by
  intro β w tmps hS
  obtain ⟨todo, s⟩ := c
  unfold condAt at hc
  simp only at hc
  split at hc
  · rename_i x A B k
    split at hc
    · rename_i b' hx
      simp only [Option.some.injEq] at hc; subst hc
      have hp := evS_atom hS GOk.nil hx
      simp only [CellOk] at hp
      have hstep : ∀ cs, Go.step C.P (lone (fr0 C.f tmps (.code (.cond x A B) :: k)) cs w) = .next (lone (fr0 C.f tmps (.code (if b' then A else B) :: k)) cs w) := fun cs => by
        rw [fr0_at, fr0_at]; exact step_cond hp
      refine Reach.step hstep ?_
      cases b' with
      | true => exact ht rfl β w tmps hS
      | false => exact hf rfl β w tmps hS
    · simp at hc
  · simp at hc

theorem G.condT {C : Ctx} {h : GH} {c : Cfg} {b : Bool} (hc : condAt c = some b) (hb : b = true) (ht : G C h (branch c true)) : G C h c :=
  G.cond b hc (fun _ => ht) (fun e => by rw [hb] at e; cases e)
theorem G.condF {C : Ctx} {h : GH} {c : Cfg} {b : Bool} (hc : condAt c = some b) (hb : b = false) (hf : G C h (branch c false)) : G C h c :=
  G.cond b hc (fun e => by rw [hb] at e; cases e) (fun _ => hf)

/-! ### Returning -/

def resVals (P : Program) (s : S) : List ResultVar → Option (List Value)
  | [] => some []
  | .tmp t :: rest => match evS s [] (.tmp t) with
    | some v => match v.val, resVals P s rest with
      | some u, some us => some (u :: us)
      | _, _ => none
    | none => none
  | .cell a T :: rest => match evS s [] (.tmp a) with
    | some (.atom (.ptr k off)) => match bx k s.boxes with
      | some ⟨_, .lit _ cs⟩ => match loadS P T cs off with
        | some v => match v.val, resVals P s rest with
          | some u, some us => some (u :: us)
          | _, _ => none
        | none => none
      | _ => none
    | _ => none

def resSem (tmps : Array Value) : ResultVar → Sem Value
  | .tmp t => pure (tmps.getD t undef)
  | .cell a t => do loadVar t (← asAddr (tmps.getD a undef))

theorem results_eq (fn : Func) (tmps : Array Value) : results fn tmps = (do
    let vs ← fn.results.mapM (resSem tmps)
    pure (if h : vs.size = 1 then vs[0] else .tuple vs)) := rfl

theorem resVals_ok {P : Program} {hE : GH} {w0 : World} {inc : List Nat} {n : Nat} {s : S} {h : GH} {β : Nat → Nat} {w : World} {tmps : Array Value} (hS : Sim hE w0 inc n s h β w tmps) :
    ∀ (l : List ResultVar) (vs : List Value), resVals P s l = some vs → (l.mapM (resSem tmps)).run P w = .ok vs w := by
  intro l
  induction l with
  | nil => intro vs hv; simp [resVals] at hv; subst hv; simp
  | cons x l ih =>
    intro vs hv
    cases x with
    | cell a t =>
      simp only [resVals] at hv
      split at hv
      · rename_i k off hev
        split at hv
        · rename_i bi T' cs hb
          split at hv
          · rename_i v hld
            split at hv
            · rename_i u us h1 h2
              simp only [Option.some.injEq] at hv; subst hv
              have hp := evS_atom hS GOk.nil hev
              simp only [CellOk] at hp
              have hp' : tmps.getD a undef = .pointer (some ⟨β k, off, none⟩) := hp.1
              obtain ⟨arr, hh, hc⟩ := hS.box _ _ hb
              obtain ⟨m, d, hm, hd⟩ := loadS_some hld
              obtain ⟨x, hx, hrun⟩ := run_loadVar_heap hm hd hh hc hld
              have hxu := SV1.val_ok h1 hx
              subst hxu
              simp [List.mapM_cons, resSem, hp', asAddr, hrun w rfl, ih us h2]
            · simp at hv
          · simp at hv
        · simp at hv
      · simp at hv
    | tmp t =>
      simp only [resVals] at hv
      split at hv
      · rename_i v hev
        split at hv
        · rename_i u us h1 h2
          simp only [Option.some.injEq] at hv; subst hv
          have hu : tmps.getD t undef = u := SV1.val_ok h1 (evS_ok hS GOk.nil hev)
          simp [List.mapM_cons, resSem, hu, ih us h2]
        · simp at hv
      · simp at hv

def packVals : List Value → Value
  | [v] => v
  | vs => .tuple vs.toArray

def retVal (P : Program) (c : Cfg) (rs : List ResultVar) : Option Value :=
  match c.todo with
  | .code .ret :: _ => (resVals P c.s rs).map packVals
  | [] => (resVals P c.s rs).map packVals
  | _ => none

theorem results_of {P : Program} {fn : Func} {tmps : Array Value} {w : World} {vs : List Value} (hm : (fn.results.toList.mapM (resSem tmps)).run P w = .ok vs w) :
    (results fn tmps).run P w = .ok (packVals vs) w := by
  have hm' : (fn.results.mapM (resSem tmps)).run P w = .ok vs.toArray w := by
    rw [Array.mapM_eq_mapM_toList, Sem.run_map, hm]; rfl
  rw [results_eq, Sem.run_bind, hm']
  match vs with
  | [] => simp [packVals]
  | [v] => simp [packVals]
  | a :: b :: l => simp [packVals]

/-- The end of a call whose results are plain values. -/
theorem G.ret {C : Ctx} {h : GH} {c : Cfg} {fn : Func} {rs : Array ResultVar} (hf : C.P.funcs[C.f]? = some fn) (hrs : fn.results = rs) (v : Value) (hv : retVal C.P c rs.toList = some v)
    (H : ∀ w', Frm C.inc C.w0 w' → Sub h w' → C.R (.returned v) w') : G C h c := by
  intro β w tmps hS
  obtain ⟨todo, s⟩ := c
  subst hrs
  unfold retVal at hv
  simp only at hv
  split at hv
  · obtain ⟨vs, h1, rfl⟩ := map_some hv
    exact Reach.ret hf (results_of (resVals_ok hS _ _ h1)) (H w hS.frame hS.sub)
  · obtain ⟨vs, h1, rfl⟩ := map_some hv
    exact Reach.fall hf (results_of (resVals_ok hS _ _ h1)) (H w hS.frame hS.sub)
  · simp at hv

/-- The same, with what has become of memory in one word. -/
theorem G.retG {C : Ctx} {h : GH} {c : Cfg} {fn : Func} {rs : Array ResultVar} (hf : C.P.funcs[C.f]? = some fn) (hrs : fn.results = rs) (v : Value) (hv : retVal C.P c rs.toList = some v) (hinc : C.inc = [])
    (H : ∀ w', Grow C.hE C.w0 h w' → C.R (.returned v) w') : G C h c := by
  intro β w tmps hS
  have hg : Grow C.hE C.w0 h w := ⟨(show Frm [] C.w0 w by rw [← hinc]; exact hS.frame).below, hS.gle, fun b hb => hS.gold b hb (by rw [hinc]; simp), hS.ghost⟩
  obtain ⟨todo, s⟩ := c
  subst hrs
  unfold retVal at hv
  simp only at hv
  split at hv
  · obtain ⟨vs, h1, rfl⟩ := map_some hv
    exact Reach.ret hf (results_of (resVals_ok hS _ _ h1)) (H w hg)
  · obtain ⟨vs, h1, rfl⟩ := map_some hv
    exact Reach.fall hf (results_of (resVals_ok hS _ _ h1)) (H w hg)
  · simp at hv
end Go.Proofs.Ytkjahaoobdbffaa

/- The base of this seat's proofs, eighth part: regions whose order is open. -/
namespace Go.Proofs.Ytkjahaoobdbffaa
open Go Go.RowKit

/-- What a slot is told by an operation that changes nothing. -/
def opSV (P : Program) (n : Nat) (s : S) (ops : Array Oper) (o : Oper) : Option SV :=
  match o.guard with
  | none => match opEval P s [] o.op with
    | some (v, .no) => if dstOk n o.dst then some (.one v) else none
    | some _ => none
    | none => match tupOf s o.op with
      | some vs => if dstOk n o.dst then some (.tup vs) else none
      | none => none
  | some (j, want) => match (ops[j]?).bind (·.dst), o.dst with
    | some tg, some d => match opEval P s (chain s 4 tg want) o.op with
      | some (v, .no) => if Nat.blt d n && Nat.blt tg n && !(Nat.beq tg d) then some (.gd tg want v) else none
      | _ => none
    | _, _ => none

def memN (x : Nat) : List Nat → Bool
  | [] => false
  | y :: l => Nat.beq y x || memN x l

theorem memN_iff {x : Nat} {l : List Nat} : memN x l = true ↔ x ∈ l := by
  induction l with
  | nil => simp [memN]
  | cons y l ih => simp only [memN, Bool.or_eq_true, nbeq_iff, List.mem_cons, ih]; constructor <;> (rintro (h | h) <;> simp_all)

def keepB (ks : List Nat) : List (Nat × Box) → List (Nat × Box)
  | [] => []
  | (k, b) :: l => if memN k ks then (k, b) :: keepB ks l else keepB ks l

theorem bx_keep {ks : List Nat} {k : Nat} {b : Box} {l : List (Nat × Box)} (h : bx k (keepB ks l) = some b) : bx k l = some b ∧ k ∈ ks := by
  induction l with
  | nil => simp [keepB, bx] at h
  | cons p l ih =>
    obtain ⟨x, c⟩ := p
    simp only [keepB] at h
    by_cases hm : memN x ks = true
    · rw [if_pos hm, bx_cons] at h
      rw [bx_cons]
      by_cases e : x = k
      · rw [if_pos e] at h ⊢; exact ⟨h, by rw [← e]; exact memN_iff.1 hm⟩
      · rw [if_neg e] at h ⊢; exact ih h
    · rw [if_neg hm] at h
      have := ih h
      rw [bx_cons]
      by_cases e : x = k
      · exact absurd (memN_iff.2 (e ▸ this.2)) hm
      · rw [if_neg e]; exact this

def takeS (ks : List Nat) (s : S) : S := { s with boxes := keepB ks s.boxes }

theorem Sim.take {hE : GH} {w0 : World} {inc : List Nat} {n : Nat} {s : S} {h : GH} {β : Nat → Nat} {w : World} {tmps : Array Value} (hS : Sim hE w0 inc n s h β w tmps) (ks : List Nat) : Sim hE w0 inc n (takeS ks s) h β w tmps where
  size := hS.size
  slots := hS.slots
  box k b hb := hS.box k b (bx_keep hb).1
  inj k l b c hk hl := hS.inj k l b c (bx_keep hk).1 (bx_keep hl).1
  keys k b hb := hS.keys k b (bx_keep hb).1
  fresh k b hb := hS.fresh k b (bx_keep hb).1
  ghost := hS.ghost
  gno k b hb := hS.gno k b (bx_keep hb).1
  frame := hS.frame
  gle := hS.gle
  gold := hS.gold
  own := hS.own
  ownB k o b ho hb := ⟨(hS.ownB k o b ho hb).1, fun j x hj => (hS.ownB k o b ho hb).2.1 j x (bx_keep hj).1, (hS.ownB k o b ho hb).2.2⟩
  ownI := hS.ownI

/-- What stays, as long as the region runs. -/
def Stays (L : List (Nat × Option Obj)) (h0 : GH) (w : World) : Prop := (∀ p ∈ L, w.heap[p.1]? = p.2) ∧ Sub h0 w

def Qk (C : Ctx) (k : List Item) : Exit → Act → World → Prop
  | .normal, a, w => a.defers = [] ∧ Reach C a.tmps k w
  | _, _, _ => False

structure DCfg where
  fuel : Nat
  listed : Array Bool
  s : S

/-- **THE GOAL inside a region whose order is open.** -/
def GD (C : Ctx) (h0 h : GH) (ops : Array Oper) (k : List Item) (ks : List Nat) (d : DCfg) : Prop :=
  ∀ β w tmps L, Sim C.hE C.w0 C.inc C.n d.s h β w tmps → L = ks.map (fun x => (β x, w.heap[β x]?)) → (∀ x ∈ ks, ∃ b, bx x d.s.boxes = some b) → GLe h0 h →
    wpAnyH C.P .any ops (Qk C k) (Stays L h0) d.fuel d.listed ⟨tmps, []⟩ w

theorem Stays.of_sim {hE : GH} {w0 : World} {inc : List Nat} {n : Nat} {s : S} {h0 h : GH} {β : Nat → Nat} {w : World} {tmps : Array Value} (hS : Sim hE w0 inc n s h β w tmps) (hle : GLe h0 h) (ks : List Nat) : Stays (ks.map fun x => (β x, w.heap[β x]?)) h0 w :=
  ⟨fun p hp => by obtain ⟨x, _, rfl⟩ := List.mem_map.1 hp; rfl, fun b o hb => hS.ghost b o (hle b o hb)⟩

theorem GD.done {C : Ctx} {h0 h : GH} {ops : Array Oper} {k : List Item} {ks : List Nat} {d : DCfg} (hr : Region.ready .any ops d.listed = []) (hG : G C h ⟨k, d.s⟩) : GD C h0 h ops k ks d := by
  intro β w tmps L hS _ _ _
  exact wpAnyH_done hr ⟨rfl, hG β w tmps hS⟩ _

theorem Qk_panic {C : Ctx} {k : List Item} (d : Option Tmp) (v : Value) : ∀ c a w, Qk C k (.panic c) (Act.put a d v) w → Qk C k (.panic c) a w := fun _ _ _ h => h

def putT (tmps : Array Value) (d : Option Nat) (v : Value) : Array Value := match d with
  | some d => tmps.setIfInBounds d v
  | none => tmps

theorem act_put (tmps : Array Value) (d : Option Nat) (v : Value) : (⟨tmps, []⟩ : Act).put d v = ⟨putT tmps d v, []⟩ := by
  cases d <;> rfl

theorem opSV_ok {P : Program} {hE : GH} {w0 : World} {inc : List Nat} {n : Nat} {s : S} {h : GH} {β : Nat → Nat} {w : World} {tmps : Array Value} (hS : Sim hE w0 inc n s h β w tmps) {ops : Array Oper} {o : Oper} {sv : SV} (hv : opSV P n s ops o = some sv) :
    dstOk n o.dst = true ∧ ∃ u, (Region.wanted o (yielded ops tmps) = true ∧ ∀ w' : World, (∀ k b, bx k s.boxes = some b → w'.heap[β k]? = w.heap[β k]?) → (execOp (evT tmps) o).run P w' = .ok (.value u) w') ∧ (∀ d, o.dst = some d → SVOk s.nb β (tmps.setIfInBounds d u) sv u) ∨
      dstOk n o.dst = true ∧ Region.wanted o (yielded ops tmps) = false ∧ (∀ d, o.dst = some d → SVOk s.nb β (tmps.setIfInBounds d undef) sv undef) := by
  unfold opSV at hv
  split at hv
  · rename_i hg
    split at hv
    · rename_i v he
      split at hv
      · rename_i hd
        simp only [Option.some.injEq] at hv; subst hv
        obtain ⟨u, h1, h2⟩ := opEval_ok hS GOk.nil he
        exact ⟨hd, u, .inl ⟨⟨by simp [Region.wanted, hg], h2⟩, fun d _ => h1⟩⟩
      · simp at hv
    · simp at hv
    · split at hv
      · rename_i vs ht
        split at hv
        · rename_i hd
          simp only [Option.some.injEq] at hv; subst hv
          obtain ⟨arr, harr, hr⟩ := tupOf_ok (P := P) hS ht
          exact ⟨hd, .tuple arr, .inl ⟨⟨by simp [Region.wanted, hg], fun w' _ => hr w'⟩, fun d _ => ⟨arr, rfl, harr⟩⟩⟩
        · simp at hv
      · simp at hv
  · rename_i j want hg
    split at hv
    · rename_i tg d hj hd
      split at hv
      · rename_i v he
        split at hv
        · rename_i hc
          simp only [Bool.and_eq_true, Bool.not_eq_true'] at hc
          have htg : tg < n := Nat.le_of_ble_eq_true hc.1.2
          have hne : d ≠ tg := fun e => by have := hc.2; rw [e, Nat.beq_refl] at this; cases this
          simp only [Option.some.injEq] at hv; subst hv
          have hwi := wanted_of (tmps := tmps) hg hj (by rw [hS.size]; exact htg)
          refine ⟨by rw [hd]; exact hc.1.1, ?_⟩
          by_cases hwt : Region.wanted o (yielded ops tmps) = true
          · have htrue := hwi.1 hwt
            obtain ⟨u, h1, h2⟩ := opEval_ok hS (chain_ok hS 4 tg want htrue) he
            refine ⟨u, .inl ⟨⟨hwt, h2⟩, fun d' hd' => ?_⟩⟩
            rw [hd] at hd'; injection hd' with hd'; subst hd'
            exact .inl ⟨by rw [getD_set_other hne]; exact htrue, h1⟩
          · have hfalse : tmps.getD tg undef ≠ .bool want := fun e => hwt (hwi.2 e)
            refine ⟨undef, .inr ⟨by rw [hd]; exact hc.1.1, by simpa using hwt, fun d' hd' => ?_⟩⟩
            rw [hd] at hd'; injection hd' with hd'; subst hd'
            exact .inr ⟨by rw [getD_set_other hne]; exact hfalse, rfl⟩
        · simp at hv
      · simp at hv
    · simp at hv

theorem Sim.putD {hE : GH} {w0 : World} {inc : List Nat} {n : Nat} {s : S} {h : GH} {β : Nat → Nat} {w : World} {tmps : Array Value} (hS : Sim hE w0 inc n s h β w tmps) {dst : Option Nat} (hd : dstOk n dst = true) {sv : SV} {u : Value}
    (hv : ∀ d, dst = some d → SVOk s.nb β (tmps.setIfInBounds d u) sv u) : Sim hE w0 inc n (putS s dst sv) h β w (putT tmps dst u) := by
  cases dst with
  | none => exact hS
  | some d => exact hS.put (Nat.le_of_ble_eq_true hd) (hv d rfl)

/-- An operation that changes nothing, and reads what stays, is taken. -/
theorem GD.take {C : Ctx} {h0 h : GH} {ops : Array Oper} {k : List Item} {ks : List Nat} {fuel : Nat} {listed : Array Bool} {s : S} {i : Nat} {o : Oper} {sv : SV} (hi : ops[i]? = some o)
    (hs : Region.noSelect ops = true) (hf : Region.free .any ops listed i = true) (hr : (Region.ready .any ops listed).contains i = true) (hv : opSV C.P C.n (takeS ks s) ops o = some sv)
    (hk : GD C h0 h ops k ks ⟨fuel, listed.setIfInBounds i true, putS s o.dst sv⟩) : GD C h0 h ops k ks ⟨fuel + 1, listed, s⟩ := by
  intro β w tmps L hS hL hlive hle
  have hst : Stays L h0 w := by rw [hL]; exact Stays.of_sim hS hle ks
  obtain ⟨hd, u, hcase⟩ := opSV_ok (hS.take ks) hv
  have key : ∀ u : Value, YieldsIf C.P ops (Stays L h0) o u ⟨tmps, []⟩ → (∀ d, o.dst = some d → SVOk s.nb β (tmps.setIfInBounds d u) sv u) → wpAnyH C.P .any ops (Qk C k) (Stays L h0) (fuel + 1) listed ⟨tmps, []⟩ w := by
    intro u hy hu
    refine wpAnyH_take hi hs hf hr (Qk_panic _ _) hy hst ?_
    rw [act_put]
    exact hk β w _ L (hS.putD hd hu) hL (by intro x hx; obtain ⟨b, hb⟩ := hlive x hx; exact ⟨b, by cases o.dst <;> exact hb⟩) hle
  rcases hcase with ⟨⟨hwt, hrun⟩, hu⟩ | ⟨_, hwt, hu⟩
  · refine key u (.inl ⟨hwt, fun w' hw' => hrun w' fun x b hb => ?_⟩) hu
    have hx := (bx_keep hb).2
    have h1 := hw'.1 (β x, w.heap[β x]?) (by rw [hL]; exact List.mem_map.2 ⟨x, hx, rfl⟩)
    exact h1
  · exact key undef (.inr ⟨hwt, rfl⟩) hu

/-- Where only one operation may come up. -/
theorem GD.only {C : Ctx} {h0 h : GH} {ops : Array Oper} {k : List Item} {ks : List Nat} {fuel : Nat} {listed : Array Bool} {s : S} {i : Nat} (hr : Region.ready .any ops listed = [i])
    (hk : ∀ β w tmps L, Sim C.hE C.w0 C.inc C.n s h β w tmps → L = ks.map (fun x => (β x, w.heap[β x]?)) → (∀ x ∈ ks, ∃ b, bx x s.boxes = some b) → GLe h0 h →
      wpOp C.P ops (Qk C k) i (fun a' w' => Stays L h0 w' ∧ wpAnyH C.P .any ops (Qk C k) (Stays L h0) fuel (listed.setIfInBounds i true) a' w') ⟨tmps, []⟩ w) : GD C h0 h ops k ks ⟨fuel + 1, listed, s⟩ := by
  intro β w tmps L hS hL hlive hle
  refine wpAnyH_all hr (by simp) fun j hj => ?_
  simp only [List.mem_singleton] at hj; subst hj
  exact hk β w tmps L hS hL hlive hle

theorem wpOp_value {P : Program} {ops : Array Oper} {Q : Exit → Act → World → Prop} {i : Nat} {o : Oper} (hi : ops[i]? = some o) {K : Act → World → Prop} {a : Act} {w w' : World} {v : Value} (hw : Region.wanted o (yielded ops a.tmps) = true)
    (hr : (execOp a.eval o).run P w = .ok (.value v) w') (h : K (a.put o.dst v) w') : wpOp P ops Q i K a w := by
  unfold wpOp; simp only [hi, hw, if_true, Oper.wp, hr, Oper.upon]; exact .inl h
theorem wpOp_skip {P : Program} {ops : Array Oper} {Q : Exit → Act → World → Prop} {i : Nat} {o : Oper} (hi : ops[i]? = some o) {K : Act → World → Prop} {a : Act} {w w' : World} (hw : Region.wanted o (yielded ops a.tmps) = true)
    (hr : (execOp a.eval o).run P w = .ok .skip w') (h : K (a.put o.dst undef) w') : wpOp P ops Q i K a w := by
  unfold wpOp; simp only [hi, hw, if_true, Oper.wp, hr, Oper.upon]; exact .inl h
theorem wpOp_unwanted {P : Program} {ops : Array Oper} {Q : Exit → Act → World → Prop} {i : Nat} {o : Oper} (hi : ops[i]? = some o) {K : Act → World → Prop} {a : Act} {w : World} (hw : Region.wanted o (yielded ops a.tmps) = false)
    (h : K (a.put o.dst undef) w) : wpOp P ops Q i K a w := by
  unfold wpOp; simp only [hi, hw, Bool.false_eq_true, if_false]; exact h
theorem wpOp_call {P : Program} {ops : Array Oper} {Q : Exit → Act → World → Prop} {i : Nat} {o : Oper} (hi : ops[i]? = some o) {K : Act → World → Prop} {a : Act} {w w' : World} {f : FuncId} {args : Array Value} (hw : Region.wanted o (yielded ops a.tmps) = true)
    (hr : (execOp a.eval o).run P w = .ok (.enter f args) w') (hc : Calls P f args w' fun e w'' => ∃ v, e = .returned v ∧ K (a.put o.dst v) w'') : wpOp P ops Q i K a w := by
  unfold wpOp; simp only [hi, hw, if_true, Oper.wp, hr, Oper.upon]
  refine .inl (hc.mono ?_)
  rintro e w'' ⟨v, rfl, hk⟩
  exact hk

/-- Does an effect spare the blocks that stay? -/
def spares (ks : List Nat) : Eff → Bool
  | .upd k _ _ => !(memN k ks)
  | _ => true

theorem applyEff_live {s : S} {e : Eff} {x : Nat} (h : ∃ b, bx x s.boxes = some b) : ∃ b, bx x (applyEff s e).boxes = some b := by
  obtain ⟨b, hb⟩ := h
  cases e with
  | no => exact ⟨b, hb⟩
  | new T cs => simp only [applyEff, bx_cons]; split <;> simp_all
  | upd k T cs =>
    simp only [applyEff]
    split
    · simp only [bx_cons]; split <;> simp_all
    · exact ⟨b, hb⟩

theorem putS_boxes (s : S) (d : Option Nat) (sv : SV) : (putS s d sv).boxes = s.boxes := by cases d <;> rfl

def noDst (d : Option Nat) : Eff → Prop
  | .upd _ _ _ => d = none
  | _ => True

/-- An operation that comes up, with its effect. -/
theorem GD.effOp {C : Ctx} {h0 h : GH} {ops : Array Oper} {k : List Item} {ks : List Nat} {fuel : Nat} {listed : Array Bool} {s s' : S} {i : Nat} {o : Oper} {v : SV1} {e : Eff} (hi : ops[i]? = some o) (hg : o.guard = none)
    (he : opEval C.P s [] o.op = some (v, e)) (hsp : spares ks e = true) (hd : dstOk C.n o.dst = true) (hs' : s' = putS (applyEff s e) o.dst (.one v)) (hnv : noDst o.dst e)
    (hk : GD C h0 h ops k ks ⟨fuel, listed.setIfInBounds i true, s'⟩) : ∀ β w tmps L, Sim C.hE C.w0 C.inc C.n s h β w tmps → L = ks.map (fun x => (β x, w.heap[β x]?)) → (∀ x ∈ ks, ∃ b, bx x s.boxes = some b) → GLe h0 h →
      wpOp C.P ops (Qk C k) i (fun a' w' => Stays L h0 w' ∧ wpAnyH C.P .any ops (Qk C k) (Stays L h0) fuel (listed.setIfInBounds i true) a' w') ⟨tmps, []⟩ w := by
  intro β w tmps L hS hL hlive hle
  have hw : Region.wanted o (yielded ops (⟨tmps, []⟩ : Act).tmps) = true := by simp [Region.wanted, hg]
  have hok := opEval_ok hS GOk.nil he
  have hlive' : ∀ x ∈ ks, ∃ b, bx x s'.boxes = some b := fun x hx => by rw [hs', putS_boxes]; exact applyEff_live (hlive x hx)
  cases e with
  | no =>
    obtain ⟨u, h1, h2⟩ := hok
    refine wpOp_value hi hw (h2 w fun _ _ _ => rfl) ⟨by rw [hL]; exact Stays.of_sim hS hle ks, ?_⟩
    rw [act_put]
    exact hk β w (putT tmps o.dst u) L (by rw [hs']; exact hS.putD hd (sv := .one v) fun d _ => h1) hL hlive' hle
  | new T cs =>
    obtain ⟨arr, u, h1, h2, h3⟩ := hok
    have hS' := hS.new (T := T) h1
    have hL' : L = ks.map (fun x => ((fun k => if k = s.nb then w.heap.size else β k) x, (w.alloc (.cells arr T)).heap[(fun k => if k = s.nb then w.heap.size else β k) x]?)) := by
      rw [hL]
      refine List.map_congr_left fun x hx => ?_
      obtain ⟨b, hb⟩ := hlive x hx
      have hlt := hS.keys x b hb
      simp only [if_neg (Nat.ne_of_lt hlt)]
      rw [Below.heap_alloc w _ _ (hS.box x b hb).lt]
    refine wpOp_value hi hw h3 ⟨?_, ?_⟩
    · rw [hL']; exact Stays.of_sim hS' hle ks
    · rw [act_put]
      refine hk (fun k => if k = s.nb then w.heap.size else β k) _ _ L ?_ hL' hlive' hle
      rw [hs']
      exact hS'.putD hd (sv := .one v) (u := u) fun d _ => h2 (fun k => if k = s.nb then w.heap.size else β k) (by simp)
  | upd y T cs =>
    obtain ⟨b, cs0, arr, h1, h2, h3⟩ := hok
    have hS' := hS.upd h1 h2
    have hy : y ∉ ks := fun hm => by simp only [spares, memN_iff.2 hm] at hsp; cases hsp
    have hL' : L = ks.map (fun x => (β x, (w.setRow (β y) arr).heap[β x]?)) := by
      rw [hL]
      refine List.map_congr_left fun x hx => ?_
      obtain ⟨b', hb'⟩ := hlive x hx
      rw [setRow_other (hS.inj x y _ _ hb' h1 fun e => hy (e ▸ hx))]
    simp only [noDst] at hnv
    refine wpOp_skip hi hw h3 ⟨?_, ?_⟩
    · rw [hL']; exact Stays.of_sim hS' hle ks
    · rw [act_put]
      refine hk _ _ _ L ?_ hL' hlive' hle
      rw [hs', hnv]
      exact hS'

theorem GD.eff {C : Ctx} {h0 h : GH} {ops : Array Oper} {k : List Item} {ks : List Nat} {fuel : Nat} {listed : Array Bool} {s s' : S} {i : Nat} {o : Oper} {v : SV1} {e : Eff} (hi : ops[i]? = some o) (hr : Region.ready .any ops listed = [i]) (hg : o.guard = none)
    (he : opEval C.P s [] o.op = some (v, e)) (hsp : spares ks e = true) (hd : dstOk C.n o.dst = true) (hs' : s' = putS (applyEff s e) o.dst (.one v)) (hnv : noDst o.dst e)
    (hk : GD C h0 h ops k ks ⟨fuel, listed.setIfInBounds i true, s'⟩) : GD C h0 h ops k ks ⟨fuel + 1, listed, s⟩ :=
  GD.only hr (GD.effOp hi hg he hsp hd hs' hnv hk)

/-! ### The runner inside a region -/

def tryTake (P : Program) (n : Nat) (ops : Array Oper) (ks : List Nat) (d : DCfg) : List Nat → Option (Nat × SV)
  | [] => none
  | i :: is => match ops[i]? with
    | some o => match opSV P n (takeS ks d.s) ops o with
      | some sv => if Region.free .any ops d.listed i then some (i, sv) else tryTake P n ops ks d is
      | none => tryTake P n ops ks d is
    | none => none

def isUpd : Eff → Bool
  | .upd _ _ _ => true
  | _ => false

def stepD (P : Program) (n : Nat) (ops : Array Oper) (ks : List Nat) (d : DCfg) : Option DCfg :=
  match d.fuel with
  | 0 => none
  | fuel + 1 => match tryTake P n ops ks d (Region.ready .any ops d.listed) with
    | some (i, sv) => some ⟨fuel, d.listed.setIfInBounds i true, putS d.s ((ops[i]?).bind (·.dst)) sv⟩
    | none => match Region.ready .any ops d.listed with
      | [i] => match ops[i]? with
        | some o => match o.guard, opEval P d.s [] o.op with
          | none, some (v, e) => if spares ks e && dstOk n o.dst && (!(isUpd e) || o.dst.isNone) then some ⟨fuel, d.listed.setIfInBounds i true, putS (applyEff d.s e) o.dst (.one v)⟩ else none
          | _, _ => none
        | none => none
      | _ => none

def runD (P : Program) (n : Nat) (ops : Array Oper) (ks : List Nat) : Nat → DCfg → DCfg
  | 0, d => d
  | m + 1, d => match stepD P n ops ks d with
    | some d' => runD P n ops ks m d'
    | none => d

theorem tryTake_ok {P : Program} {n : Nat} {ops : Array Oper} {ks : List Nat} {d : DCfg} {i : Nat} {sv : SV} : ∀ (l : List Nat), tryTake P n ops ks d l = some (i, sv) → i ∈ l ∧ ∃ o, ops[i]? = some o ∧ opSV P n (takeS ks d.s) ops o = some sv ∧ Region.free .any ops d.listed i = true := by
  intro l
  induction l with
  | nil => intro h; simp [tryTake] at h
  | cons j l ih =>
    intro h
    simp only [tryTake] at h
    split at h
    · rename_i o ho
      split at h
      · rename_i sv' hsv
        split at h
        · rename_i hf
          simp only [Option.some.injEq, Prod.mk.injEq] at h
          obtain ⟨rfl, rfl⟩ := h
          exact ⟨by simp, o, ho, hsv, hf⟩
        · have := ih h; exact ⟨by simp [this.1], this.2⟩
      · have := ih h; exact ⟨by simp [this.1], this.2⟩
    · simp at h

theorem GD.of_stepD {C : Ctx} {h0 h : GH} {ops : Array Oper} {k : List Item} {ks : List Nat} {d d' : DCfg} (hns : Region.noSelect ops = true) (hs : stepD C.P C.n ops ks d = some d') (hk : GD C h0 h ops k ks d') : GD C h0 h ops k ks d := by
  obtain ⟨fuel, listed, s⟩ := d
  unfold stepD at hs
  simp only at hs
  split at hs
  · simp at hs
  · rename_i fuel
    split at hs
    · rename_i i sv ht
      simp only [Option.some.injEq] at hs; subst hs
      obtain ⟨h1, o, h2, h3, h4⟩ := tryTake_ok _ ht
      refine GD.take h2 hns h4 (by simpa using h1) h3 ?_
      rw [h2] at hk; exact hk
    · split at hs
      · rename_i i hr
        split at hs
        · rename_i o ho
          split at hs
          · rename_i v e hg he
            split at hs
            · rename_i hc
              simp only [Bool.and_eq_true, Bool.or_eq_true, Bool.not_eq_true'] at hc
              simp only [Option.some.injEq] at hs; subst hs
              refine GD.eff ho hr hg he hc.1.1 hc.1.2 rfl ?_ hk
              cases e with
              | upd a b c =>
                show o.dst = none
                rcases hc.2 with h5 | h5
                · simp [isUpd] at h5
                · simpa using h5
              | _ => trivial
            · simp at hs
          · simp at hs
        · simp at hs
      · simp at hs

theorem GD.run {C : Ctx} {h0 h : GH} {ops : Array Oper} {k : List Item} {ks : List Nat} (hns : Region.noSelect ops = true) : ∀ (m : Nat) {d : DCfg}, GD C h0 h ops k ks (runD C.P C.n ops ks m d) → GD C h0 h ops k ks d
  | 0, _, h' => h'
  | m + 1, d, h' => by
    unfold runD at h'
    cases hs : stepD C.P C.n ops ks d with
    | none => rw [hs] at h'; exact h'
    | some d' => rw [hs] at h'; exact GD.of_stepD hns hs (GD.run hns m h')

def drawAt (c : Cfg) : Option (Array Oper) :=
  match c.todo with
  | .code (.region _ ops true) :: _ => some ops
  | _ => none

def liveAll (ks : List Nat) (s : S) : Bool :=
  match ks with
  | [] => true
  | k :: l => (bx k s.boxes).isSome && liveAll l s

theorem liveAll_ok {ks : List Nat} {s : S} (h : liveAll ks s = true) : ∀ x ∈ ks, ∃ b, bx x s.boxes = some b := by
  induction ks with
  | nil => simp
  | cons k l ih =>
    simp only [liveAll, Bool.and_eq_true] at h
    intro x hx
    simp only [List.mem_cons] at hx
    rcases hx with rfl | hx
    · exact Option.isSome_iff_exists.1 h.1
    · exact ih h.2 x hx

def restOf (c : Cfg) : List Item := c.todo.tail
def opsOf (c : Cfg) : Array Oper := (drawAt c).getD #[]
def startD (c : Cfg) : DCfg := ⟨(opsOf c).size, Array.replicate (opsOf c).size false, c.s⟩

/-- A region whose order is open is begun; ks: the blocks that stay while it runs. -/
theorem G.draw {C : Ctx} {h : GH} {c : Cfg} (ks : List Nat) (hm : C.P.follows .mixedOrders = true) (hd : (drawAt c).isSome = true) (hl : liveAll ks c.s = true) (hk : GD C h h (opsOf c) (restOf c) ks (startD c)) : G C h c := by
  intro β w tmps hS
  obtain ⟨todo, s⟩ := c
  unfold drawAt at hd
  simp only at hd
  split at hd
  · rename_i id ops k
    have hops : opsOf ⟨.code (.region id ops true) :: k, s⟩ = ops := rfl
    have hrest : restOf ⟨.code (.region id ops true) :: k, s⟩ = k := rfl
    rw [hops, hrest] at hk
    refine Reach.wp (wp_mono (Q := Qk C k) ?_ (fun e a w h => by cases e <;> first | exact h | exact (h : False).elim))
    refine (wp_region_held (S := Stays (ks.map fun x => (β x, w.heap[β x]?)) h) hm ?_)
    have hS' : Sim C.hE C.w0 C.inc C.n s h β { w with drawn := w.drawn + 1 } tmps := hS.of_heap rfl rfl rfl rfl
    have := hk β { w with drawn := w.drawn + 1 } tmps (ks.map fun x => (β x, w.heap[β x]?)) hS' rfl (liveAll_ok hl) (GLe.refl h)
    simp only [startD, hops] at this
    exact this
  · simp at hd
end Go.Proofs.Ytkjahaoobdbffaa

/- The base of this seat's proofs, ninth part: operations by their meaning, calls inside regions of open order, forgetting, loops. -/
namespace Go.Proofs.Ytkjahaoobdbffaa
open Go Go.RowKit

/-! ### An operation by its meaning -/

def exV (s : S) (g : List (Nat × Bool)) (x : Operand) : Value := match evS s g x with
  | some v => v.val.getD undef
  | none => undef

def exOk (s : S) (g : List (Nat × Bool)) : List Operand → Bool
  | [] => true
  | x :: xs => (match evS s g x with | some v => v.val.isSome | none => false) && exOk s g xs

def isSelect : Op → Bool
  | .select _ _ => true
  | _ => false

structure SemView where
  m : Sem Next
  dst : Option Nat
  guard : Option (Nat × Bool)

def semOf (s : S) (ops : Array Oper) (o : Oper) : Option SemView :=
  match isSelect o.op with
  | true => none
  | false => match o.guard with
    | none => if exOk s [] o.op.operands.toList then some ⟨execOp (exV s []) o, o.dst, none⟩ else none
    | some (j, want) => match (ops[j]?).bind (·.dst) with
      | some tg => if exOk s (chain s 4 tg want) o.op.operands.toList then some ⟨execOp (exV s (chain s 4 tg want)) o, o.dst, some (tg, want)⟩ else none
      | none => none

theorem exV_ok {hE : GH} {w0 : World} {inc : List Nat} {n : Nat} {s : S} {h : GH} {β : Nat → Nat} {w : World} {tmps : Array Value} (hS : Sim hE w0 inc n s h β w tmps) {g : List (Nat × Bool)} (hg : GOk tmps g) {l : List Operand} (hl : exOk s g l = true) :
    ∀ x ∈ l, evT tmps x = exV s g x := by
  induction l with
  | nil => simp
  | cons y l ih =>
    simp only [exOk, Bool.and_eq_true] at hl
    intro x hx
    simp only [List.mem_cons] at hx
    rcases hx with rfl | hx
    · have h1 := hl.1
      split at h1
      · rename_i v hv
        obtain ⟨u, hu⟩ := Option.isSome_iff_exists.1 h1
        have := SV1.val_ok hu (evS_ok hS hg hv)
        simp [exV, hv, hu, this]
      · simp at h1
    · exact ih hl.2 x hx

theorem sem_exec {hE : GH} {w0 : World} {inc : List Nat} {n : Nat} {s : S} {h : GH} {β : Nat → Nat} {w : World} {tmps : Array Value} (hS : Sim hE w0 inc n s h β w tmps) {g : List (Nat × Bool)} (hg : GOk tmps g) {o : Oper} (hsel : isSelect o.op = false) (hl : exOk s g o.op.operands.toList = true) :
    execOp (evT tmps) o = execOp (exV s g) o :=
  execOp_congr o (fun cs b e => by rw [e] at hsel; simp [isSelect] at hsel) fun x hx => exV_ok hS hg hl x (by simpa using hx)

def gdOf (g : Option (Nat × Bool)) (v : SV1) : SV := match g with
  | none => .one v
  | some (t, b) => .gd t b v

/-- A result as it is known behind a guard or none. -/
def gOk (n : Nat) (d : Option Nat) (g : Option (Nat × Bool)) : Bool := match g with
  | none => dstOk n d
  | some (tg, _) => match d with
    | some d => Nat.blt d n && Nat.blt tg n && !(Nat.beq tg d)
    | none => false

/-- What a view tells of the operation: it runs as the view says if it is wanted. -/
theorem semOf_ok {P : Program} {hE : GH} {w0 : World} {inc : List Nat} {n : Nat} {s : S} {h : GH} {β : Nat → Nat} {w : World} {tmps : Array Value} (hS : Sim hE w0 inc n s h β w tmps) {ops : Array Oper} {o : Oper} {m : Sem Next} {d : Option Nat} {g : Option (Nat × Bool)}
    (hv : semOf s ops o = some ⟨m, d, g⟩) (hok : gOk n d g = true) (u : Value) (sv : SV1) (hsv : ∀ N β, SV1Ok N β sv u) (W : World → Prop) (hrun : guardSays s g (∀ w : World, W w → m.run P w = .ok (.value u) w)) :
    d = o.dst ∧ dstOk n d = true ∧ (((Region.wanted o (yielded ops tmps) = true ∧ ∀ w', W w' → (execOp (evT tmps) o).run P w' = .ok (.value u) w') ∧ ∀ d, o.dst = some d → SVOk s.nb β (tmps.setIfInBounds d u) (gdOf g sv) u) ∨
      (Region.wanted o (yielded ops tmps) = false ∧ ∀ d, o.dst = some d → SVOk s.nb β (tmps.setIfInBounds d undef) (gdOf g sv) undef)) := by
  unfold semOf at hv
  split at hv
  · simp at hv
  · rename_i hsel
    split at hv
    · rename_i hg
      split at hv
      · rename_i hex
        simp only [Option.some.injEq, SemView.mk.injEq] at hv
        obtain ⟨rfl, rfl, rfl⟩ := hv
        refine ⟨rfl, hok, .inl ⟨⟨by simp [Region.wanted, hg], fun w' hw' => ?_⟩, fun d _ => hsv _ _⟩⟩
        rw [sem_exec hS GOk.nil hsel hex]
        exact hrun.bare (.inl rfl) w' hw'
      · simp at hv
    · rename_i j want hg
      split at hv
      · rename_i tg hj
        split at hv
        · rename_i hex
          simp only [Option.some.injEq, SemView.mk.injEq] at hv
          obtain ⟨rfl, rfl, rfl⟩ := hv
          unfold gOk at hok
          simp only at hok
          split at hok
          · rename_i d hd
            simp only [Bool.and_eq_true, Bool.not_eq_true'] at hok
            have htg : tg < n := Nat.le_of_ble_eq_true hok.1.2
            have hne : d ≠ tg := fun e => by have := hok.2; rw [e, Nat.beq_refl] at this; cases this
            have hwi := wanted_of (tmps := tmps) hg hj (by rw [hS.size]; exact htg)
            refine ⟨rfl, by rw [hd]; exact hok.1.1, ?_⟩
            by_cases hwt : Region.wanted o (yielded ops tmps) = true
            · have htrue := hwi.1 hwt
              refine .inl ⟨⟨hwt, fun w' hw' => ?_⟩, fun d' hd' => ?_⟩
              · rw [sem_exec hS (chain_ok hS 4 tg want htrue) hsel hex]
                exact guardSays_use hS hrun htrue w' hw'
              · rw [hd] at hd'; injection hd' with hd'; subst hd'
                exact .inl ⟨by rw [getD_set_other hne]; exact htrue, hsv _ _⟩
            · have hfalse : tmps.getD tg undef ≠ .bool want := fun e => hwt (hwi.2 e)
              refine .inr ⟨by simpa using hwt, fun d' hd' => ?_⟩
              rw [hd] at hd'; injection hd' with hd'; subst hd'
              exact .inr ⟨by rw [getD_set_other hne]; exact hfalse, rfl⟩
          · simp at hok
        · simp at hv
      · simp at hv

def semAt (c : Cfg) : Option SemView :=
  match c.todo with
  | .inRegion ops (i :: _) :: _ => match ops[i]? with
    | some o => semOf c.s ops o
    | none => none
  | _ => none

def valS (m : Sem Value) : Sem Next := do pure (.value (← m))
def unitS (m : Sem Unit) : Sem Next := do m; pure .skip

theorem run_valS {P : Program} {m : Sem Value} {w w' : World} {v : Value} (h : m.run P w = .ok v w') : (valS m).run P w = .ok (.value v) w' := by
  simp [valS, h]

/-- **An operation that only reads, by its meaning.** -/
theorem G.sem {C : Ctx} {h : GH} {c : Cfg} {m : Sem Next} {d : Option Nat} {g : Option (Nat × Bool)} (hv : semAt c = some ⟨m, d, g⟩) (hok : gOk C.n d g = true) (u : Value) (sv : SV1) (hsv : ∀ N β, SV1Ok N β sv u)
    (hrun : guardSays c.s g (∀ w, Sub h w → m.run C.P w = .ok (.value u) w)) (hk : G C h (afterOp c (gdOf g sv))) : G C h c := by
  intro β w tmps hS
  obtain ⟨todo, s⟩ := c
  unfold semAt at hv
  simp only at hv
  split at hv
  · rename_i ops i rest k
    split at hv
    · rename_i o ho
      obtain ⟨hd, hdo, hcase⟩ := semOf_ok (P := C.P) hS hv hok u sv hsv (Sub h) hrun
      have hk' := hk β w
      simp only [afterOp, ho, Option.bind_some] at hk'
      rw [hd] at hdo
      rcases hcase with ⟨⟨hwt, hr⟩, hu⟩ | ⟨hwt, hu⟩
      · refine Reach.value ho hwt (hr w hS.sub) ?_
        rw [put_tmps]
        exact hk' _ (hS.putD hdo hu)
      · refine Reach.unwanted ho hwt ?_
        rw [put_tmps]
        exact hk' _ (hS.putD hdo hu)
    · simp at hv
  · simp at hv

/-! ### Inside regions of open order -/

/-- Operation i comes up now. -/
def GDop (C : Ctx) (h0 h : GH) (ops : Array Oper) (k : List Item) (ks : List Nat) (d : DCfg) (i : Nat) : Prop :=
  ∀ β w tmps L, Sim C.hE C.w0 C.inc C.n d.s h β w tmps → L = ks.map (fun x => (β x, w.heap[β x]?)) → (∀ x ∈ ks, ∃ b, bx x d.s.boxes = some b) → GLe h0 h →
    wpOp C.P ops (Qk C k) i (fun a' w' => Stays L h0 w' ∧ wpAnyH C.P .any ops (Qk C k) (Stays L h0) (d.fuel - 1) (d.listed.setIfInBounds i true) a' w') ⟨tmps, []⟩ w

def readyIs (ops : Array Oper) (d : DCfg) (l : List Nat) : Bool := match d.fuel with
  | 0 => false
  | _ + 1 => Region.ready .any ops d.listed == l && !l.isEmpty

/-- Whatever may come up is shown. -/
theorem GD.every {C : Ctx} {h0 h : GH} {ops : Array Oper} {k : List Item} {ks : List Nat} {d : DCfg} (l : List Nat) (hr : readyIs ops d l = true) (hk : ∀ i ∈ l, GDop C h0 h ops k ks d i) : GD C h0 h ops k ks d := by
  obtain ⟨fuel, listed, s⟩ := d
  unfold readyIs at hr
  simp only at hr
  split at hr
  · simp at hr
  · rename_i fuel
    simp only [Bool.and_eq_true, beq_iff_eq, Bool.not_eq_true', List.isEmpty_eq_false_iff] at hr
    intro β w tmps L hS hL hlive hle
    exact wpAnyH_all hr.1 hr.2 fun i hi => hk i hi β w tmps L hS hL hlive hle

theorem GD.one {C : Ctx} {h0 h : GH} {ops : Array Oper} {k : List Item} {ks : List Nat} {d : DCfg} (i : Nat) (hr : readyIs ops d [i] = true) (hk : GDop C h0 h ops k ks d i) : GD C h0 h ops k ks d :=
  GD.every [i] hr fun j hj => by simp only [List.mem_singleton] at hj; subst hj; exact hk

theorem GD.two {C : Ctx} {h0 h : GH} {ops : Array Oper} {k : List Item} {ks : List Nat} {d : DCfg} (i j : Nat) (hr : readyIs ops d [i, j] = true) (hi : GDop C h0 h ops k ks d i) (hj : GDop C h0 h ops k ks d j) : GD C h0 h ops k ks d :=
  GD.every [i, j] hr fun x hx => by
    simp only [List.mem_cons, List.not_mem_nil, or_false] at hx
    rcases hx with rfl | rfl
    · exact hi
    · exact hj

def nextD (d : DCfg) (i : Nat) (s : S) : DCfg := ⟨d.fuel - 1, d.listed.setIfInBounds i true, s⟩

/-- Behind operation i, which left s' and told sv. -/
def afterN (ops : Array Oper) (d : DCfg) (i : Nat) (s : S) (sv : SV) : DCfg := nextD d i (putS s ((ops[i]?).bind (·.dst)) sv)

def callOf (s : S) (ops : Array Oper) (o : Oper) : Option CallView :=
  match o.op with
  | .call ⟨.value x, args, _⟩ => match o.guard with
    | none => match calleeS s [] x, evArgs s [] args.toList with
      | some (f, a, b), some vs => some ⟨f, a ++ vs ++ b, o.dst, none⟩
      | _, _ => none
    | some (j, want) => match (ops[j]?).bind (·.dst) with
      | some tg => match calleeS s (chain s 4 tg want) x, evArgs s (chain s 4 tg want) args.toList with
        | some (f, a, b), some vs => some ⟨f, a ++ vs ++ b, o.dst, some (tg, want)⟩
        | _, _ => none
      | none => none
  | _ => none

def callAtD (ops : Array Oper) (d : DCfg) (i : Nat) : Option CallView := match ops[i]? with
  | some o => callOf d.s ops o
  | none => none

/-- **A call inside a region of open order**, in its widest form. -/
theorem GDop.callX {C : Ctx} {h0 h : GH} {ops : Array Oper} {k : List Item} {ks : List Nat} {d : DCfg} {i : Nat} {f : FuncId} {svs : List SV1} {dst : Option Nat} (hc : callAtD ops d i = some ⟨f, svs, dst, none⟩) (he : enters C.P f = true) (hd : dstOk C.n dst = true)
    (hk : ∀ β w tmps l, Sim C.hE C.w0 C.inc C.n d.s h β w tmps → SV1sOk d.s.nb β svs l → Calls C.P f l.toArray w fun e w' => ∃ v, e = .returned v ∧
      ∃ h' s' β' sv, Sim C.hE C.w0 C.inc C.n s' h' β' w' tmps ∧ (∀ tmps', SVOk s'.nb β' tmps' sv v) ∧ GLe h h' ∧ (∀ x ∈ ks, β' x = β x ∧ w'.heap[β x]? = w.heap[β x]? ∧ ∃ b, bx x s'.boxes = some b) ∧ GD C h0 h' ops k ks (afterN ops d i s' sv)) : GDop C h0 h ops k ks d i := by
  intro β w tmps L hS hL hlive hle
  obtain ⟨fuel, listed, s⟩ := d
  unfold callAtD at hc
  simp only at hc hS
  split at hc
  · rename_i o hi
    simp only [afterN, nextD, hi, Option.bind_some] at hk
    unfold callOf at hc
    split at hc
    · rename_i x args types hop
      split at hc
      · rename_i hg
        split at hc
        · rename_i f' a b vs hx hv
          simp only [Option.some.injEq, CallView.mk.injEq] at hc
          obtain ⟨rfl, rfl, rfl, -⟩ := hc
          obtain ⟨l, hl, hrun⟩ := run_callS hS GOk.nil hop hx hv he
          refine wpOp_call hi (by simp [Region.wanted, hg]) hrun ((hk β w tmps l hS hl).mono ?_)
          rintro e w' ⟨v, rfl, h', s', β', sv, hS', hsv, hle', hks, hG⟩
          refine ⟨v, rfl, ?_⟩
          have hL' : L = ks.map (fun x => (β' x, w'.heap[β' x]?)) := by
            rw [hL]
            refine List.map_congr_left fun x hx => ?_
            obtain ⟨h1, h2, -⟩ := hks x hx
            rw [h1, h2]
          refine ⟨by rw [hL']; exact Stays.of_sim hS' (hle.trans hle') ks, ?_⟩
          rw [act_put]
          exact hG β' w' (putT tmps o.dst v) L (hS'.putD hd fun d _ => hsv _) hL' (fun x hx => by simp only [putS_boxes]; exact (hks x hx).2.2) (hle.trans hle')
        · simp at hc
      · split at hc
        · split at hc
          · simp at hc
          · simp at hc
        · simp at hc
    · simp at hc
  · simp at hc

/-- A call of a function that leaves what was there as it was; its arguments are plain values. -/
theorem GDop.callP {C : Ctx} {h0 h : GH} {ops : Array Oper} {k : List Item} {ks : List Nat} {d : DCfg} {i : Nat} {f : FuncId} {svs : List SV1} {dst : Option Nat} (hc : callAtD ops d i = some ⟨f, svs, dst, none⟩) (vals : List Value) (hv : svVals svs = some vals) (he : enters C.P f = true) (hd : dstOk C.n dst = true) (hlv : liveAll ks d.s = true)
    (Q : GH → Value → Prop) (hcall : ∀ w, Sub h w → Calls C.P f vals.toArray w fun e w' => ∃ v h', e = .returned v ∧ Grow h w h' w' ∧ Q h' v)
    (hk : ∀ h' v, Q h' v → GLe h h' → ∃ sv, (∀ N β tmps, SVOk N β tmps sv v) ∧ GD C h0 h' ops k ks (afterN ops d i d.s sv)) : GDop C h0 h ops k ks d i := by
  refine GDop.callX hc he hd fun β w tmps l hS hl => ?_
  rw [svVals_ok hv hl]
  refine (hcall w hS.sub).mono ?_
  rintro e w' ⟨v, h', rfl, hg, hq⟩
  obtain ⟨sv, h1, h2⟩ := hk h' v hq hg.le
  refine ⟨v, rfl, h', d.s, β, sv, hS.grow hg, fun tmps' => h1 _ _ _, hg.le, fun x hx => ?_, h2⟩
  obtain ⟨b, hb⟩ := liveAll_ok hlv x hx
  exact ⟨rfl, hg.below.block _ (hS.box x b hb).lt, b, hb⟩

theorem GDop.callV {C : Ctx} {h0 h : GH} {ops : Array Oper} {k : List Item} {ks : List Nat} {d : DCfg} {i : Nat} {f : FuncId} {svs : List SV1} {dst : Option Nat} (hc : callAtD ops d i = some ⟨f, svs, dst, none⟩) (vals : List Value) (v : Value) (hv : svVals svs = some vals) (he : enters C.P f = true) (hd : dstOk C.n dst = true) (hlv : liveAll ks d.s = true)
    (hcall : ∀ w, Sub h w → Calls C.P f vals.toArray w fun e w' => e = .returned v ∧ Below w.heap.size w w') (hk : GD C h0 h ops k ks (afterN ops d i d.s (.ofV v))) : GDop C h0 h ops k ks d i := by
  refine GDop.callP hc vals hv he hd hlv (fun h' u => h' = h ∧ u = v) (fun w hs => (hcall w hs).mono ?_) ?_
  · rintro e w' ⟨rfl, hb⟩
    exact ⟨v, h, rfl, .of_below hs hb, rfl, rfl⟩
  · rintro h' u ⟨rfl, rfl⟩ _
    exact ⟨.ofV u, fun N β tmps => SVofV_ok N β tmps u, hk⟩

/-- A call under a guard, inside a region of open order. -/
theorem GDop.callGV {C : Ctx} {h0 h : GH} {ops : Array Oper} {k : List Item} {ks : List Nat} {d : DCfg} {i : Nat} {f : FuncId} {svs : List SV1} {dd tg : Nat} {want : Bool} (hc : callAtD ops d i = some ⟨f, svs, some dd, some (tg, want)⟩) (vals : List Value) (v : Value) (hv : svVals svs = some vals) (he : enters C.P f = true)
    (hd : (Nat.blt dd C.n && Nat.blt tg C.n && !(Nat.beq tg dd)) = true) 
    (hcall : guardSays d.s (some (tg, want)) (∀ w, Sub h w → Calls C.P f vals.toArray w fun e w' => e = .returned v ∧ Below w.heap.size w w')) (hk : GD C h0 h ops k ks (afterN ops d i d.s (.gd tg want (.ofV v)))) : GDop C h0 h ops k ks d i := by
  intro β w tmps L hS hL hlive hle
  obtain ⟨fuel, listed, s⟩ := d
  simp only [Bool.and_eq_true, Bool.not_eq_true'] at hd
  have htg : tg < C.n := Nat.le_of_ble_eq_true hd.1.2
  have hne : dd ≠ tg := fun e => by have := hd.2; rw [e, Nat.beq_refl] at this; cases this
  unfold callAtD at hc
  simp only at hc hS hcall
  split at hc
  · rename_i o hi
    simp only [afterN, nextD, hi, Option.bind_some] at hk
    unfold callOf at hc
    split at hc
    · rename_i x args types hop
      split at hc
      · split at hc
        · simp at hc
        · simp at hc
      · rename_i j want' hg
        split at hc
        · rename_i tg' hj
          split at hc
          · rename_i f' a b' vs hx hv'
            simp only [Option.some.injEq, CallView.mk.injEq, Prod.mk.injEq] at hc
            obtain ⟨rfl, rfl, hdst, rfl, rfl⟩ := hc
            have hwi := wanted_of (tmps := tmps) hg hj (by rw [hS.size]; exact htg)
            by_cases hwt : Region.wanted o (yielded ops tmps) = true
            · have htrue := hwi.1 hwt
              obtain ⟨l, hl, hrun⟩ := run_callS hS (chain_ok hS 4 tg' want' htrue) hop hx hv' he
              refine wpOp_call hi hwt hrun ?_
              rw [svVals_ok hv hl]
              refine (guardSays_use hS hcall htrue w hS.sub).mono ?_
              rintro e w' ⟨rfl, h2⟩
              refine ⟨v, rfl, ?_⟩
              have hg' := Grow.of_below hS.sub h2
              have hL' : L = ks.map (fun x => (β x, w'.heap[β x]?)) := by
                rw [hL]
                refine List.map_congr_left fun x hx => ?_
                obtain ⟨b, hb⟩ := hlive x hx
                rw [h2.block _ (hS.box x b hb).lt]
              refine ⟨by rw [hL']; exact Stays.of_sim (hS.grow hg') hle ks, ?_⟩
              rw [act_put, hdst]
              rw [hdst] at hk
              refine hk β w' (putT tmps (some dd) v) L ((hS.grow hg').put (Nat.le_of_ble_eq_true hd.1.1) (.inl ⟨?_, SV1ofV_ok _ _ _⟩)) hL' hlive hle
              rw [getD_set_other hne]; exact htrue
            · have hfalse : tmps.getD tg' undef ≠ .bool want' := fun e => hwt (hwi.2 e)
              refine wpOp_unwanted hi (by simpa using hwt) ⟨by rw [hL]; exact Stays.of_sim hS hle ks, ?_⟩
              rw [act_put, hdst]
              rw [hdst] at hk
              refine hk β w (putT tmps (some dd) undef) L (hS.put (Nat.le_of_ble_eq_true hd.1.1) (.inr ⟨?_, rfl⟩)) hL hlive hle
              rw [getD_set_other hne]; exact hfalse
          · simp at hc
        · simp at hc
    · simp at hc
  · simp at hc

/-- An operation with its effect, computed, where several may come up. -/
def effAt (P : Program) (n : Nat) (ops : Array Oper) (ks : List Nat) (d : DCfg) (i : Nat) : Option DCfg := match d.fuel with
  | 0 => none
  | fuel + 1 => match ops[i]? with
    | some o => match o.guard, opEval P d.s [] o.op with
      | none, some (v, e) => if spares ks e && dstOk n o.dst && (!(isUpd e) || o.dst.isNone) then some ⟨fuel, d.listed.setIfInBounds i true, putS (applyEff d.s e) o.dst (.one v)⟩ else none
      | _, _ => none
    | none => none

theorem GDop.eff {C : Ctx} {h0 h : GH} {ops : Array Oper} {k : List Item} {ks : List Nat} {d : DCfg} {i : Nat} (he : (effAt C.P C.n ops ks d i).isSome = true) (hk : GD C h0 h ops k ks ((effAt C.P C.n ops ks d i).getD d)) : GDop C h0 h ops k ks d i := by
  obtain ⟨d', hd'⟩ := Option.isSome_iff_exists.1 he
  rw [hd'] at hk
  simp only [Option.getD_some] at hk
  obtain ⟨fuel, listed, s⟩ := d
  unfold effAt at hd'
  simp only at hd'
  split at hd'
  · simp at hd'
  · rename_i fuel
    split at hd'
    · rename_i o hi
      split at hd'
      · rename_i v e hg he
        split at hd'
        · rename_i hc
          simp only [Bool.and_eq_true, Bool.or_eq_true, Bool.not_eq_true'] at hc
          simp only [Option.some.injEq] at hd'; subst hd'
          intro β w tmps L hS hL hlive hle
          have hnv : noDst o.dst e := by
            cases e with
            | upd a b c =>
              show o.dst = none
              rcases hc.2 with h5 | h5
              · simp [isUpd] at h5
              · simpa using h5
            | _ => trivial
          exact GD.effOp hi hg he hc.1.1 hc.1.2 rfl hnv hk β w tmps L hS hL hlive hle
        · simp at hd'
      · simp at hd'
    · simp at hd'

/-- Operation i may be taken first. -/
def takeAtD (ops : Array Oper) (d : DCfg) (i : Nat) : Option SemView :=
  match d.fuel with
  | 0 => none
  | _ + 1 => if Region.free .any ops d.listed i && (Region.ready .any ops d.listed).contains i && Region.noSelect ops then (match ops[i]? with
    | some o => semOf d.s ops o
    | none => none) else none

def afterI (ops : Array Oper) (d : DCfg) (i : Nat) (sv : SV) : DCfg := nextD d i (putS d.s ((ops[i]?).bind (·.dst)) sv)

/-- An operation that only reads, by its meaning, inside a region of open order; it is taken first. -/
theorem GD.sem {C : Ctx} {h0 h : GH} {ops : Array Oper} {k : List Item} {ks : List Nat} {d : DCfg} (i : Nat) {m : Sem Next} {dst : Option Nat} {g : Option (Nat × Bool)} (hv : takeAtD ops d i = some ⟨m, dst, g⟩) (hok : gOk C.n dst g = true) (u : Value) (sv : SV1) (hsv : ∀ N β, SV1Ok N β sv u)
    (hrun : guardSays d.s g (∀ w, Sub h0 w → m.run C.P w = .ok (.value u) w)) (hk : GD C h0 h ops k ks (afterI ops d i (gdOf g sv))) : GD C h0 h ops k ks d := by
  obtain ⟨fuel, listed, s⟩ := d
  unfold takeAtD at hv
  simp only at hv
  split at hv
  · simp at hv
  · rename_i fuel
    split at hv
    · rename_i hc
      simp only [Bool.and_eq_true] at hc
      split at hv
      · rename_i o ho
        intro β w tmps L hS hL hlive hle
        have hst : Stays L h0 w := by rw [hL]; exact Stays.of_sim hS hle ks
        obtain ⟨hd, hdo, hcase⟩ := semOf_ok (P := C.P) hS hv hok u sv hsv (Sub h0) hrun
        simp only [afterI, nextD, ho, Option.bind_some] at hk
        rw [hd] at hdo
        have key : ∀ u : Value, YieldsIf C.P ops (Stays L h0) o u ⟨tmps, []⟩ → (∀ d, o.dst = some d → SVOk s.nb β (tmps.setIfInBounds d u) (gdOf g sv) u) → wpAnyH C.P .any ops (Qk C k) (Stays L h0) (fuel + 1) listed ⟨tmps, []⟩ w := by
          intro u hy hu
          refine wpAnyH_take ho hc.2 hc.1.1 hc.1.2 (Qk_panic _ _) hy hst ?_
          rw [act_put]
          exact hk β w _ L (hS.putD hdo hu) hL (by intro x hx; obtain ⟨b, hb⟩ := hlive x hx; exact ⟨b, by simp only [putS_boxes]; exact hb⟩) hle
        rcases hcase with ⟨⟨hwt, hr⟩, hu⟩ | ⟨hwt, hu⟩
        · exact key u (.inl ⟨hwt, fun w' hw' => hr w' hw'.2⟩) hu
        · exact key undef (.inr ⟨hwt, rfl⟩) hu
      · simp at hv
    · simp at hv

/-- The end of a region of open order. -/
def doneD (ops : Array Oper) (d : DCfg) : Bool := (Region.ready .any ops d.listed).isEmpty

theorem GD.fin {C : Ctx} {h0 h : GH} {ops : Array Oper} {k : List Item} {ks : List Nat} {d : DCfg} (hd : doneD ops d = true) (hG : G C h ⟨k, d.s⟩) : GD C h0 h ops k ks d :=
  GD.done (by simpa [doneD, List.isEmpty_iff] using hd) hG

/-! ### The runner, regions of open order too -/

def liveKeys : List (Nat × Box) → List Nat
  | [] => []
  | (k, _) :: l => k :: liveKeys l

def stepE (P : Program) (n : Nat) (c : Cfg) : Option Cfg :=
  match stepC P n c with
  | some c' => some c'
  | none => match drawAt c with
    | some ops =>
      let d := runD P n ops (liveKeys c.s.boxes) 100 (startD c)
      if doneD ops d && Region.noSelect ops then some ⟨restOf c, d.s⟩ else none
    | none => none

def runE (P : Program) (n : Nat) : Nat → Cfg → Cfg
  | 0, c => c
  | m + 1, c => match stepE P n c with
    | some c' => runE P n m c'
    | none => c

theorem liveKeys_ok (l : List (Nat × Box)) : ∀ x ∈ liveKeys l, ∃ b, bx x l = some b := by
  induction l with
  | nil => simp [liveKeys]
  | cons p l ih =>
    obtain ⟨k, b⟩ := p
    intro x hx
    simp only [liveKeys, List.mem_cons] at hx
    rw [bx_cons]
    by_cases e : k = x
    · exact ⟨b, by rw [if_pos e]⟩
    · rw [if_neg e]
      exact ih x (hx.resolve_left fun e' => e e'.symm)

theorem liveAll_of {ks : List Nat} {s : S} (h : ∀ x ∈ ks, ∃ b, bx x s.boxes = some b) : liveAll ks s = true := by
  induction ks with
  | nil => rfl
  | cons k l ih =>
    simp only [liveAll, Bool.and_eq_true]
    exact ⟨by obtain ⟨b, hb⟩ := h k (by simp); simp [hb], ih fun x hx => h x (by simp [hx])⟩

theorem G.of_stepE {C : Ctx} {h : GH} (hm : C.P.follows .mixedOrders = true) {c c' : Cfg} (hs : stepE C.P C.n c = some c') (h' : G C h c') : G C h c := by
  unfold stepE at hs
  split at hs
  · rename_i c'' hc
    simp only [Option.some.injEq] at hs; subst hs
    exact G.of_stepC hc h'
  · split at hs
    · rename_i ops hd
      simp only at hs
      split at hs
      · rename_i hf
        simp only [Bool.and_eq_true] at hf
        simp only [Option.some.injEq] at hs; subst hs
        refine G.draw (liveKeys c.s.boxes) hm (by rw [hd]; rfl) (liveAll_of (liveKeys_ok _)) ?_
        have hops : opsOf c = ops := by simp [opsOf, hd]
        rw [hops]
        exact GD.run hf.2 100 (GD.fin hf.1 h')
      · simp at hs
    · simp at hs

/-- **The runner may be taken.** -/
theorem G.runE {C : Ctx} {h : GH} (hm : C.P.follows .mixedOrders = true) : ∀ (m : Nat) {c : Cfg}, G C h (runE C.P C.n m c) → G C h c
  | 0, _, h' => h'
  | m + 1, c, h' => by
    unfold Ytkjahaoobdbffaa.runE at h'
    cases hs : stepE C.P C.n c with
    | none => rw [hs] at h'; exact h'
    | some c' => rw [hs] at h'; exact G.of_stepE hm hs (G.runE hm m h')

/-! ### Forgetting -/

def keyLt (n : Nat) : Cell → Bool
  | .ptr k _ => Nat.blt k n
  | .bsl k _ _ _ => Nat.blt k n
  | .clo _ _ k _ => Nat.blt k n
  | _ => true

def keysLt (n : Nat) : List Cell → Bool
  | [] => true
  | c :: cs => keyLt n c && keysLt n cs

def keyLt1 (n : Nat) : SV1 → Bool
  | .atom c => keyLt n c
  | .agg cs => keysLt n cs

def keysLt1 (n : Nat) : List SV1 → Bool
  | [] => true
  | c :: cs => keyLt1 n c && keysLt1 n cs

def keyLtS (n : Nat) : SV → Bool
  | .one v => keyLt1 n v
  | .tup vs => keysLt1 n vs
  | .gd _ _ v => keyLt1 n v

def keyLtB (n : Nat) : BoxB → Bool
  | .lit _ cs => keysLt n cs
  | .obj _ => true

def okSlots (n : Nat) : List (Nat × SV) → Bool
  | [] => true
  | (_, sv) :: l => keyLtS n sv && okSlots n l

def okBoxes (n : Nat) : List (Nat × Box) → Bool
  | [] => true
  | (k, b) :: l => Nat.blt k n && keyLtB n b.body && okBoxes n l

theorem CellOk.shrink {N N' : Nat} {β : Nat → Nat} {c : Cell} {v : Value} (h : CellOk N β c v) (hk : keyLt N' c = true) : CellOk N' β c v := by
  cases c <;> simp only [CellOk] at h ⊢ <;> try exact h
  all_goals exact ⟨h.1, Nat.le_of_ble_eq_true hk⟩

theorem CellsOk.shrink {N N' : Nat} {β : Nat → Nat} {cs : List Cell} {vs : List Value} (h : CellsOk N β cs vs) (hk : keysLt N' cs = true) : CellsOk N' β cs vs := by
  induction cs generalizing vs with
  | nil => cases vs <;> simp_all [CellsOk]
  | cons c cs ih => cases vs with
    | nil => simp [CellsOk] at h
    | cons v vs =>
      simp only [keysLt, Bool.and_eq_true] at hk
      exact ⟨h.1.shrink hk.1, ih h.2 hk.2⟩

theorem SV1Ok.shrink {N N' : Nat} {β : Nat → Nat} {c : SV1} {v : Value} (h : SV1Ok N β c v) (hk : keyLt1 N' c = true) : SV1Ok N' β c v := by
  cases c with
  | atom c => exact CellOk.shrink h hk
  | agg cs => obtain ⟨arr, rfl, h⟩ := h; exact ⟨arr, rfl, h.shrink hk⟩

theorem SV1sOk.shrink {N N' : Nat} {β : Nat → Nat} {cs : List SV1} {vs : List Value} (h : SV1sOk N β cs vs) (hk : keysLt1 N' cs = true) : SV1sOk N' β cs vs := by
  induction cs generalizing vs with
  | nil => cases vs <;> simp_all [SV1sOk]
  | cons c cs ih => cases vs with
    | nil => simp [SV1sOk] at h
    | cons v vs =>
      simp only [keysLt1, Bool.and_eq_true] at hk
      exact ⟨h.1.shrink hk.1, ih h.2 hk.2⟩

theorem SVOk.shrink {N N' : Nat} {β : Nat → Nat} {tmps : Array Value} {c : SV} {v : Value} (h : SVOk N β tmps c v) (hk : keyLtS N' c = true) : SVOk N' β tmps c v := by
  cases c with
  | one c => exact SV1Ok.shrink h hk
  | tup cs => obtain ⟨arr, rfl, h⟩ := h; exact ⟨arr, rfl, h.shrink hk⟩
  | gd t b c => exact h.imp (fun ⟨a, b⟩ => ⟨a, b.shrink hk⟩) id

theorem BoxOk.shrink {N N' : Nat} {β : Nat → Nat} {w : World} {n : Nat} {b : BoxB} (h : BoxOk N β w n b) (hk : keyLtB N' b = true) : BoxOk N' β w n b := by
  cases b with
  | lit T cs => obtain ⟨arr, e, h⟩ := h; exact ⟨arr, e, h.shrink hk⟩
  | obj o => exact h

def slotRows (s : S) : List Nat → List (Nat × SV)
  | [] => []
  | t :: ts => (t, lk t s.slots) :: slotRows s ts

def boxRows (s : S) : List Nat → List (Nat × Box)
  | [] => []
  | k :: ks => match bx k s.boxes with
    | some b => (k, b) :: boxRows s ks
    | none => boxRows s ks

def ownRows (s : S) : List Nat → List (Nat × Own)
  | [] => []
  | k :: ks => match ow k s.owns with
    | some b => (k, b) :: ownRows s ks
    | none => ownRows s ks

theorem ow_cons (k l : Nat) (b : Own) (bs : List (Nat × Own)) : ow k ((l, b) :: bs) = if l = k then some b else ow k bs := by
  simp only [ow]
  by_cases h : l = k
  · subst h; simp
  · have : Nat.beq l k = false := by
      cases hb : Nat.beq l k
      · rfl
      · exact absurd (Nat.eq_of_beq_eq_true hb) h
    simp [this, h]

theorem ow_rows {s : S} {k : Nat} {b : Own} : ∀ (ks : List Nat), ow k (ownRows s ks) = some b → ow k s.owns = some b := by
  intro ks
  induction ks with
  | nil => intro h; simp [ownRows, ow] at h
  | cons x ks ih =>
    intro h
    simp only [ownRows] at h
    split at h
    · rename_i b' hb'
      rw [ow_cons] at h
      split at h
      · rename_i e; subst e; rw [hb']; exact h
      · exact ih h
    · exact ih h

/-- These slots, blocks and slices alone. -/
def restrS (ts ks : List Nat) (nb : Nat) (os : List Nat) (s : S) : S := ⟨slotRows s ts, boxRows s ks, nb, ownRows s os⟩

theorem lkAux_rows (s : S) (t : Nat) : ∀ (ts : List Nat) (newer : List Nat), lkAux t newer (slotRows s ts) = lk t s.slots ∨ lkAux t newer (slotRows s ts) = anyS := by
  intro ts
  induction ts with
  | nil => intro newer; exact .inr rfl
  | cons x ts ih =>
    intro newer
    simp only [slotRows, lkAux]
    split
    · rename_i hx
      have hx := Nat.eq_of_beq_eq_true hx; subst hx
      split
      · split
        · exact .inr rfl
        · exact .inl rfl
      · exact .inl rfl
    · exact ih _

theorem bx_rows {s : S} {k : Nat} {b : Box} : ∀ (ks : List Nat), bx k (boxRows s ks) = some b → bx k s.boxes = some b := by
  intro ks
  induction ks with
  | nil => intro h; simp [boxRows, bx] at h
  | cons x ks ih =>
    intro h
    simp only [boxRows] at h
    split at h
    · rename_i b' hb'
      rw [bx_cons] at h
      split at h
      · rename_i e; subst e; rw [hb']; exact h
      · exact ih h
    · exact ih h

theorem okSlots_lk {n t : Nat} : ∀ (l : List (Nat × SV)) (newer : List Nat), okSlots n l = true → keyLtS n (lkAux t newer l) = true := by
  intro l
  induction l with
  | nil => intro _ _; rfl
  | cons p l ih =>
    obtain ⟨x, sv⟩ := p
    intro newer h
    simp only [okSlots, Bool.and_eq_true] at h
    simp only [lkAux]
    split
    · split
      · split
        · rfl
        · exact h.1
      · exact h.1
    · exact ih _ h.2

theorem okBoxes_bx {n k : Nat} {b : Box} : ∀ (l : List (Nat × Box)), okBoxes n l = true → bx k l = some b → k < n ∧ keyLtB n b.body = true := by
  intro l
  induction l with
  | nil => intro _ h; simp [bx] at h
  | cons p l ih =>
    obtain ⟨x, c⟩ := p
    intro h hb
    simp only [okBoxes, Bool.and_eq_true] at h
    rw [bx_cons] at hb
    split at hb
    · rename_i e; subst e
      simp only [Option.some.injEq] at hb; subst hb
      exact ⟨Nat.le_of_ble_eq_true h.1.1, h.1.2⟩
    · exact ih h.2 hb

def okS (s : S) : Bool := okSlots s.nb s.slots && okBoxes s.nb s.boxes

theorem Sim.restr {hE : GH} {w0 : World} {inc : List Nat} {n : Nat} {s : S} {h : GH} {β : Nat → Nat} {w : World} {tmps : Array Value} (hS : Sim hE w0 inc n s h β w tmps) {ts ks : List Nat} {nb : Nat} {os : List Nat} (hok : okS (restrS ts ks nb os s) = true) : Sim hE w0 inc n (restrS ts ks nb os s) h β w tmps := by
  simp only [okS, Bool.and_eq_true] at hok
  refine ⟨hS.size, fun t => ?_, fun k b hk => ?_, fun k l b c hk hl => hS.inj k l b c (bx_rows ks hk) (bx_rows ks hl), fun k b hk => (okBoxes_bx _ hok.2 hk).1, fun k b hk => hS.fresh k b (bx_rows ks hk), hS.ghost, fun k b hk => hS.gno k b (bx_rows ks hk), hS.frame, hS.gle, hS.gold,
    fun k o ho => hS.own k o (ow_rows os ho), fun k o b ho hb => ⟨(hS.ownB k o b (ow_rows os ho) hb).1, fun j x hj => (hS.ownB k o b (ow_rows os ho) hb).2.1 j x (bx_rows ks hj), (hS.ownB k o b (ow_rows os ho) hb).2.2⟩, fun k l o p b ho hp => hS.ownI k l o p b (ow_rows os ho) (ow_rows os hp)⟩
  · have h1 : keyLtS nb (lk t (slotRows s ts)) = true := okSlots_lk _ _ hok.1
    show SVOk nb β tmps (lk t (slotRows s ts)) _
    rcases lkAux_rows s t ts [] with e | e
    · have e' : lk t (slotRows s ts) = lk t s.slots := e
      rw [e'] at h1 ⊢
      exact (hS.slots t).shrink h1
    · have e' : lk t (slotRows s ts) = anyS := e
      rw [e']; exact trivial
  · exact (hS.box k b (bx_rows ks hk)).shrink (okBoxes_bx _ hok.2 hk).2

theorem G.weaken {C : Ctx} {h : GH} {c : Cfg} {s' : S} (ts ks : List Nat) (nb : Nat) (os : List Nat) (he : restrS ts ks nb os c.s = s') (hok : okS s' = true) (hk : G C h ⟨c.todo, s'⟩) : G C h c := by
  subst he
  intro β w tmps hS
  exact hk β w tmps (hS.restr hok)

/-- What a slot is known to hold is said in other words. -/
theorem G.reslot {C : Ctx} {h : GH} {c : Cfg} (t : Nat) (sv sv' : SV) (hl : lk t c.s.slots = sv) (hi : ∀ N β tmps v, SVOk N β tmps sv v → SVOk N β tmps sv' v) (hk : G C h ⟨c.todo, { c.s with slots := (t, sv') :: c.s.slots }⟩) : G C h c := by
  intro β w tmps hS
  refine hk β w tmps ⟨hS.size, fun x => ?_, hS.box, hS.inj, hS.keys, hS.fresh, hS.ghost, hS.gno, hS.frame, hS.gle, hS.gold, hS.own, hS.ownB, hS.ownI⟩
  show SVOk c.s.nb β tmps (lk x ((t, sv') :: c.s.slots)) _
  rw [lk_put]
  by_cases e : t = x
  · subst e
    rw [if_pos rfl]
    exact hi _ _ _ _ (hl ▸ hS.slots t)
  · rw [if_neg e]
    have hs := hS.slots x
    cases hx : lk x c.s.slots with
    | one v => rw [hx] at hs; exact hs
    | tup v => rw [hx] at hs; exact hs
    | gd g b v =>
      rw [hx] at hs
      simp only
      split
      · exact trivial
      · exact hs

theorem G.reint {C : Ctx} {h : GH} {c : Cfg} (t : Nat) {k : IntKind} {a b : Int} (hl : lk t c.s.slots = .one (.atom (.int k a))) (e : a = b) (hk : G C h ⟨c.todo, { c.s with slots := (t, .one (.atom (.int k b))) :: c.s.slots }⟩) : G C h c :=
  G.reslot t _ _ hl (fun N β tmps v hv => by subst e; exact hv) hk

theorem G.rebool {C : Ctx} {h : GH} {c : Cfg} (t : Nat) {a b : Bool} (hl : lk t c.s.slots = .one (.atom (.bool a))) (e : a = b) (hk : G C h ⟨c.todo, { c.s with slots := (t, .one (.atom (.bool b))) :: c.s.slots }⟩) : G C h c :=
  G.reslot t _ _ hl (fun N β tmps v hv => by subst e; exact hv) hk

/-! ### Loops -/

def isLoop (c : Cfg) : Bool := match c.todo with
  | .code (.loop _) :: _ => true
  | _ => false

def loopIn (c : Cfg) : List Item := match c.todo with
  | .code (.loop body) :: k => .code body :: .inLoop body :: k
  | t => t

def loopBack (c : Cfg) : List Item := match c.todo with
  | .code (.loop body) :: k => .inLoop body :: k
  | t => t

theorem G.loop {α : Type} {C : Ctx} {h : GH} {c : Cfg} (st : α → S) (Φ : α → GH → Prop) (μ : α → Nat) (x0 : α) (ts ks : List Nat) (nb : Nat) (os : List Nat) (hl : isLoop c = true) (h0 : restrS ts ks nb os c.s = st x0) (hok : okS (st x0) = true) (hΦ : Φ x0 h)
    (round : ∀ x h, Φ x h → (∀ y h', Φ y h' → μ y < μ x → G C h' ⟨loopBack c, st y⟩) → G C h ⟨loopIn c, st x⟩) : G C h c := by
  obtain ⟨todo, s⟩ := c
  unfold isLoop at hl
  simp only at hl
  split at hl
  · rename_i body k
    have hin : loopIn ⟨.code (.loop body) :: k, s⟩ = .code body :: .inLoop body :: k := rfl
    have hback : loopBack ⟨.code (.loop body) :: k, s⟩ = .inLoop body :: k := rfl
    rw [hin, hback] at round
    have all : ∀ n x h, μ x = n → Φ x h → G C h ⟨.code body :: .inLoop body :: k, st x⟩ := by
      intro n
      induction n using Nat.strongRecOn with
      | _ n ih =>
        intro x h hn hx
        refine round x h hx fun y h' hy hlt => ?_
        intro β w tmps hS
        refine Reach.step (fun cs => ?_) (ih (μ y) (hn ▸ hlt) y h' rfl hy β w tmps hS)
        rw [fr0_at, fr0_at]; exact step_inLoop
    refine G.weaken ts ks nb os h0 hok ?_
    intro β w tmps hS
    refine Reach.step (fun cs => ?_) (all _ x0 h rfl hΦ β w tmps hS)
    rw [fr0_at, fr0_at]; exact step_loop
  · simp at hl

/-- The round is over. -/
theorem G.back {C : Ctx} {h : GH} {c : Cfg} {todo : List Item} {s' : S} (ht : c.todo = todo) (ts ks : List Nat) (nb : Nat) (os : List Nat) (he : restrS ts ks nb os c.s = s') (hok : okS s' = true) (hk : G C h ⟨todo, s'⟩) : G C h c :=
  G.weaken ts ks nb os he hok (by rw [ht]; exact hk)
end Go.Proofs.Ytkjahaoobdbffaa

/- The base of this seat's proofs, tenth part: a runner that also takes calls of functions whose answer is known. -/
namespace Go.Proofs.Ytkjahaoobdbffaa
open Go Go.RowKit

/-- What functions answer, as far as it is known: of what is known of memory and of the arguments. -/
abbrev Tab := S → FuncId → List SV1 → Option SV1

def TabOk (P : Program) (tab : Tab) : Prop :=
  ∀ (s : S) (f : FuncId) (svs : List SV1) (v : SV1), tab s f svs = some v → ∀ hE w0 inc n h β w tmps args, Sim hE w0 inc n s h β w tmps → SV1sOk s.nb β svs args →
    Calls P f args.toArray w fun e w' => ∃ u, e = .returned u ∧ SV1Ok s.nb β v u ∧ Below w.heap.size w w'

def tabNone : Tab := fun _ _ _ => none
theorem tabNone_ok (P : Program) : TabOk P tabNone := fun _ _ _ _ h => by cases h

def tabF (f0 : FuncId) (g : S → List SV1 → Option SV1) : Tab := fun s f svs => match Nat.beq f f0 with
  | true => g s svs
  | false => none

def tabOr (a b : Tab) : Tab := fun s f svs => match a s f svs with
  | some v => some v
  | none => b s f svs

theorem tabOr_ok {P : Program} {a b : Tab} (ha : TabOk P a) (hb : TabOk P b) : TabOk P (tabOr a b) := by
  intro s f svs v hv
  unfold tabOr at hv
  split at hv
  · rename_i u hu
    simp only [Option.some.injEq] at hv; subst hv
    exact ha s f svs _ hu
  · exact hb s f svs v hv

theorem tabF_ok {P : Program} {f0 : FuncId} {g : S → List SV1 → Option SV1}
    (hg : ∀ s svs v, g s svs = some v → ∀ hE w0 inc n h β w tmps args, Sim hE w0 inc n s h β w tmps → SV1sOk s.nb β svs args →
      Calls P f0 args.toArray w fun e w' => ∃ u, e = .returned u ∧ SV1Ok s.nb β v u ∧ Below w.heap.size w w') : TabOk P (tabF f0 g) := by
  intro s f svs v hv
  unfold tabF at hv
  split at hv
  · rename_i he
    have := Nat.eq_of_beq_eq_true he
    subst this
    exact hg s svs v hv
  · cases hv

/-- Of a function whose arguments and answer are plain values. -/
theorem tabF_plain {P : Program} {f0 : FuncId} {g : List SV1 → Option SV1}
    (hg : ∀ svs v, g svs = some v → ∃ vals u, svVals svs = some vals ∧ (∀ N β, SV1Ok N β v u) ∧ ∀ w, Calls P f0 vals.toArray w fun e w' => e = .returned u ∧ Below w.heap.size w w') : TabOk P (tabF f0 fun _ svs => g svs) :=
  tabF_ok fun s svs v hv hE w0 inc n h β w tmps args hS hargs => by
    obtain ⟨vals, u, h1, h2, h3⟩ := hg svs v hv
    rw [svVals_ok h1 hargs]
    exact (h3 w).mono fun e w' ⟨he, hb⟩ => ⟨u, he, h2 _ _, hb⟩

def tabStep (P : Program) (n : Nat) (tab : Tab) (s : S) (cv : CallView) : Option SV :=
  match tab s cv.f cv.args with
  | some v => if enters P cv.f then (match cv.guard with
    | none => if dstOk n cv.dst then some (.one v) else none
    | some (tg, want) => match cv.dst with
      | some d => if Nat.blt d n && Nat.blt tg n && !(Nat.beq tg d) then some (.gd tg want v) else none
      | none => none) else none
  | none => none

def stepCT (P : Program) (n : Nat) (tab : Tab) (c : Cfg) : Option Cfg :=
  match stepC P n c with
  | some c' => some c'
  | none => match callView c with
    | some cv => (tabStep P n tab c.s cv).map fun sv => afterOp c sv
    | none => none

theorem callView_shape {c : Cfg} {cv : CallView} (hc : callView c = some cv) : ∃ ops i rest k o, c.todo = .inRegion ops (i :: rest) :: k ∧ ops[i]? = some o ∧ callOf c.s ops o = some cv := by
  unfold callView at hc
  split at hc
  · rename_i ops i rest k hk
    split at hc
    · rename_i o ho
      exact ⟨ops, i, rest, k, o, hk, ho, hc⟩
    · simp at hc
  · simp at hc

/-- A call whose answer is known: it runs so if it is wanted. -/
theorem tab_call {P : Program} {tab : Tab} (ht : TabOk P tab) {hE : GH} {w0 : World} {inc : List Nat} {n : Nat} {s : S} {h : GH} {β : Nat → Nat} {w : World} {tmps : Array Value} (hS : Sim hE w0 inc n s h β w tmps) {ops : Array Oper} {o : Oper} {cv : CallView}
    (hc : callOf s ops o = some cv) {sv : SV} (hs : tabStep P n tab s cv = some sv) :
    dstOk n o.dst = true ∧ ((Region.wanted o (yielded ops tmps) = true ∧ ∃ f args, (execOp (evT tmps) o).run P w = .ok (.enter f args) w ∧
        Calls P f args w fun e w' => ∃ u, e = .returned u ∧ Below w.heap.size w w' ∧ ∀ d, o.dst = some d → SVOk s.nb β (tmps.setIfInBounds d u) sv u) ∨
      (Region.wanted o (yielded ops tmps) = false ∧ ∀ d, o.dst = some d → SVOk s.nb β (tmps.setIfInBounds d undef) sv undef)) := by
  unfold tabStep at hs
  split at hs
  · rename_i v hv
    split at hs
    · rename_i hen
      unfold callOf at hc
      split at hc
      · rename_i x args types hop
        split at hc
        · rename_i hg
          split at hc
          · rename_i f a b vs hx hav
            simp only [Option.some.injEq] at hc; subst hc
            simp only at hs hv hen
            split at hs
            · rename_i hd
              simp only [Option.some.injEq] at hs; subst hs
              obtain ⟨l, hl, hrun⟩ := run_callS hS GOk.nil hop hx hav hen
              refine ⟨hd, .inl ⟨by simp [Region.wanted, hg], f, l.toArray, hrun, (ht _ _ _ _ hv _ _ _ _ _ _ _ _ _ hS hl).mono ?_⟩⟩
              rintro e w' ⟨u, rfl, h1, h2⟩
              exact ⟨u, rfl, h2, fun d _ => h1⟩
            · simp at hs
          · simp at hc
        · rename_i j want hg
          split at hc
          · rename_i tg hj
            split at hc
            · rename_i f a b vs hx hav
              simp only [Option.some.injEq] at hc; subst hc
              simp only at hs hv hen
              split at hs
              · rename_i d hd
                split at hs
                · rename_i hok
                  simp only [Bool.and_eq_true, Bool.not_eq_true'] at hok
                  simp only [Option.some.injEq] at hs; subst hs
                  have htg : tg < n := Nat.le_of_ble_eq_true hok.1.2
                  have hne : d ≠ tg := fun e => by have := hok.2; rw [e, Nat.beq_refl] at this; cases this
                  have hwi := wanted_of (tmps := tmps) hg hj (by rw [hS.size]; exact htg)
                  refine ⟨by rw [hd]; exact hok.1.1, ?_⟩
                  by_cases hwt : Region.wanted o (yielded ops tmps) = true
                  · have htrue := hwi.1 hwt
                    obtain ⟨l, hl, hrun⟩ := run_callS hS (chain_ok hS 4 tg want htrue) hop hx hav hen
                    refine .inl ⟨hwt, f, l.toArray, hrun, (ht _ _ _ _ hv _ _ _ _ _ _ _ _ _ hS hl).mono ?_⟩
                    rintro e w' ⟨u, rfl, h1, h2⟩
                    refine ⟨u, rfl, h2, fun d' hd' => ?_⟩
                    rw [hd] at hd'; injection hd' with hd'; subst hd'
                    exact .inl ⟨by rw [getD_set_other hne]; exact htrue, h1⟩
                  · have hfalse : tmps.getD tg undef ≠ .bool want := fun e => hwt (hwi.2 e)
                    refine .inr ⟨by simpa using hwt, fun d' hd' => ?_⟩
                    rw [hd] at hd'; injection hd' with hd'; subst hd'
                    exact .inr ⟨by rw [getD_set_other hne]; exact hfalse, rfl⟩
                · simp at hs
              · simp at hs
            · simp at hc
          · simp at hc
      · simp at hc
    · simp at hs
  · simp at hs

theorem G.of_stepCT {C : Ctx} {h : GH} {tab : Tab} (ht : TabOk C.P tab) {c c' : Cfg} (hs : stepCT C.P C.n tab c = some c') (h' : G C h c') : G C h c := by
  unfold stepCT at hs
  split at hs
  · rename_i c'' hc
    simp only [Option.some.injEq] at hs; subst hs
    exact G.of_stepC hc h'
  · split at hs
    · rename_i cv hcv
      obtain ⟨sv, h1, rfl⟩ := map_some hs
      obtain ⟨ops, i, rest, k, o, hk, ho, hco⟩ := callView_shape hcv
      intro β w tmps hS
      obtain ⟨todo, s⟩ := c
      simp only at hk hS h1 hco; subst hk
      obtain ⟨hd, hcase⟩ := tab_call ht hS hco h1
      have hk' := h' β
      simp only [afterOp, ho, Option.bind_some] at hk'
      rcases hcase with ⟨hwt, f, args, hrun, hcall⟩ | ⟨hwt, hu⟩
      · refine Reach.call ho hwt hrun (hcall.mono ?_)
        rintro e w' ⟨u, rfl, hb, hu⟩
        refine ⟨u, rfl, ?_⟩
        rw [put_tmps]
        exact hk' w' _ ((hS.grow (.of_below hS.sub hb)).putD hd hu)
      · refine Reach.unwanted ho hwt ?_
        rw [put_tmps]
        exact hk' w _ (hS.putD hd hu)
    · simp at hs

/-! ### Inside regions of open order -/

def stepDT (P : Program) (n : Nat) (tab : Tab) (ops : Array Oper) (ks : List Nat) (d : DCfg) : Option DCfg :=
  match stepD P n ops ks d with
  | some d' => some d'
  | none => match d.fuel with
    | 0 => none
    | fuel + 1 => match Region.ready .any ops d.listed with
      | [i] => match ops[i]? with
        | some o => match callOf d.s ops o with
          | some cv => (tabStep P n tab d.s cv).map fun sv => ⟨fuel, d.listed.setIfInBounds i true, putS d.s o.dst sv⟩
          | none => none
        | none => none
      | _ => none

def runDT (P : Program) (n : Nat) (tab : Tab) (ops : Array Oper) (ks : List Nat) : Nat → DCfg → DCfg
  | 0, d => d
  | m + 1, d => match stepDT P n tab ops ks d with
    | some d' => runDT P n tab ops ks m d'
    | none => d

theorem GD.of_stepDT {C : Ctx} {h0 h : GH} {tab : Tab} (ht : TabOk C.P tab) {ops : Array Oper} {k : List Item} {ks : List Nat} {d d' : DCfg} (hns : Region.noSelect ops = true) (hs : stepDT C.P C.n tab ops ks d = some d') (hk : GD C h0 h ops k ks d') : GD C h0 h ops k ks d := by
  unfold stepDT at hs
  split at hs
  · rename_i d'' hd
    simp only [Option.some.injEq] at hs; subst hs
    exact GD.of_stepD hns hd hk
  · obtain ⟨fuel, listed, s⟩ := d
    simp only at hs
    split at hs
    · simp at hs
    · rename_i fuel _
      split at hs
      · rename_i i hr
        split at hs
        · rename_i o ho
          split at hs
          · rename_i cv hcv
            obtain ⟨sv, h1, rfl⟩ := map_some hs
            refine GD.only hr fun β w tmps L hS hL hlive hle => ?_
            obtain ⟨hd, hcase⟩ := tab_call ht hS hcv h1
            rcases hcase with ⟨hwt, f, args, hrun, hcall⟩ | ⟨hwt, hu⟩
            · refine wpOp_call ho hwt hrun (hcall.mono ?_)
              rintro e w' ⟨u, rfl, hb, hu⟩
              refine ⟨u, rfl, ?_⟩
              have hg' := Grow.of_below hS.sub hb
              have hL' : L = ks.map (fun x => (β x, w'.heap[β x]?)) := by
                rw [hL]
                refine List.map_congr_left fun x hx => ?_
                obtain ⟨b, hb'⟩ := hlive x hx
                rw [hb.block _ (hS.box x b hb').lt]
              refine ⟨by rw [hL']; exact Stays.of_sim (hS.grow hg') hle ks, ?_⟩
              rw [act_put]
              exact hk β w' _ L ((hS.grow hg').putD hd hu) hL' (fun x hx => by simp only [putS_boxes]; exact hlive x hx) hle
            · refine wpOp_unwanted ho hwt ⟨by rw [hL]; exact Stays.of_sim hS hle ks, ?_⟩
              rw [act_put]
              exact hk β w _ L (hS.putD hd hu) hL (fun x hx => by simp only [putS_boxes]; exact hlive x hx) hle
          · simp at hs
        · simp at hs
      · simp at hs

theorem GD.runT {C : Ctx} {h0 h : GH} {tab : Tab} (ht : TabOk C.P tab) {ops : Array Oper} {k : List Item} {ks : List Nat} (hns : Region.noSelect ops = true) : ∀ (m : Nat) {d : DCfg}, GD C h0 h ops k ks (runDT C.P C.n tab ops ks m d) → GD C h0 h ops k ks d
  | 0, _, h' => h'
  | m + 1, d, h' => by
    unfold runDT at h'
    cases hs : stepDT C.P C.n tab ops ks d with
    | none => rw [hs] at h'; exact h'
    | some d' => rw [hs] at h'; exact GD.of_stepDT ht hns hs (GD.runT ht hns m h')

def stepET (P : Program) (n : Nat) (tab : Tab) (c : Cfg) : Option Cfg :=
  match stepCT P n tab c with
  | some c' => some c'
  | none => match drawAt c with
    | some ops =>
      let d := runDT P n tab ops (liveKeys c.s.boxes) 100 (startD c)
      if doneD ops d && Region.noSelect ops then some ⟨restOf c, d.s⟩ else none
    | none => none

def runT (P : Program) (n : Nat) (tab : Tab) : Nat → Cfg → Cfg
  | 0, c => c
  | m + 1, c => match stepET P n tab c with
    | some c' => runT P n tab m c'
    | none => c

theorem G.of_stepET {C : Ctx} {h : GH} {tab : Tab} (ht : TabOk C.P tab) (hm : C.P.follows .mixedOrders = true) {c c' : Cfg} (hs : stepET C.P C.n tab c = some c') (h' : G C h c') : G C h c := by
  unfold stepET at hs
  split at hs
  · rename_i c'' hc
    simp only [Option.some.injEq] at hs; subst hs
    exact G.of_stepCT ht hc h'
  · split at hs
    · rename_i ops hd
      simp only at hs
      split at hs
      · rename_i hf
        simp only [Bool.and_eq_true] at hf
        simp only [Option.some.injEq] at hs; subst hs
        refine G.draw (liveKeys c.s.boxes) hm (by rw [hd]; rfl) (liveAll_of (liveKeys_ok _)) ?_
        have hops : opsOf c = ops := by simp [opsOf, hd]
        rw [hops]
        exact GD.runT ht hf.2 100 (GD.fin hf.1 h')
      · simp at hs
    · simp at hs

/-- **The runner may be taken**: calls whose answers are known, too. -/
theorem G.runT {C : Ctx} {h : GH} {tab : Tab} (ht : TabOk C.P tab) (hm : C.P.follows .mixedOrders = true) : ∀ (m : Nat) {c : Cfg}, G C h (runT C.P C.n tab m c) → G C h c
  | 0, _, h' => h'
  | m + 1, c, h' => by
    unfold Ytkjahaoobdbffaa.runT at h'
    cases hs : stepET C.P C.n tab c with
    | none => rw [hs] at h'; exact h'
    | some c' => rw [hs] at h'; exact G.of_stepET ht hm hs (G.runT ht hm m h')

end Go.Proofs.Ytkjahaoobdbffaa
