/- The base of this seat's proofs, ninth part: operations by their meaning, calls inside regions of open order, forgetting, loops. -/
import Derived.Test.YtkjahaoobdbffaaB8
namespace Go.Proofs.Ytkjahaoobdbffaa
open Go Go.RowKit

/-! ### An operation by its meaning -/

def exV (s : S) (g : List (Nat × Bool)) (x : Operand) : Value := match evS s g x with
  | some v => v.val.getD undef
  | none => undef

def exOk (s : S) (g : List (Nat × Bool)) : List Operand → Bool
  | [] => true
  | x :: xs => (match evS s g x with | some v => v.val.isSome | none => false) && exOk s g xs

def isSelect : Op → Bool
  | .select _ _ => true
  | _ => false

structure SemView where
  m : Sem Next
  dst : Option Nat
  guard : Option (Nat × Bool)

def semOf (s : S) (ops : Array Oper) (o : Oper) : Option SemView :=
  match isSelect o.op with
  | true => none
  | false => match o.guard with
    | none => if exOk s [] o.op.operands.toList then some ⟨execOp (exV s []) o, o.dst, none⟩ else none
    | some (j, want) => match (ops[j]?).bind (·.dst) with
      | some tg => if exOk s (chain s 4 tg want) o.op.operands.toList then some ⟨execOp (exV s (chain s 4 tg want)) o, o.dst, some (tg, want)⟩ else none
      | none => none

theorem exV_ok {hE : GH} {w0 : World} {inc : List Nat} {n : Nat} {s : S} {h : GH} {β : Nat → Nat} {w : World} {tmps : Array Value} (hS : Sim hE w0 inc n s h β w tmps) {g : List (Nat × Bool)} (hg : GOk tmps g) {l : List Operand} (hl : exOk s g l = true) :
    ∀ x ∈ l, evT tmps x = exV s g x := by
  induction l with
  | nil => simp
  | cons y l ih =>
    simp only [exOk, Bool.and_eq_true] at hl
    intro x hx
    simp only [List.mem_cons] at hx
    rcases hx with rfl | hx
    · have h1 := hl.1
      split at h1
      · rename_i v hv
        obtain ⟨u, hu⟩ := Option.isSome_iff_exists.1 h1
        have := SV1.val_ok hu (evS_ok hS hg hv)
        simp [exV, hv, hu, this]
      · simp at h1
    · exact ih hl.2 x hx

theorem sem_exec {hE : GH} {w0 : World} {inc : List Nat} {n : Nat} {s : S} {h : GH} {β : Nat → Nat} {w : World} {tmps : Array Value} (hS : Sim hE w0 inc n s h β w tmps) {g : List (Nat × Bool)} (hg : GOk tmps g) {o : Oper} (hsel : isSelect o.op = false) (hl : exOk s g o.op.operands.toList = true) :
    execOp (evT tmps) o = execOp (exV s g) o :=
  execOp_congr o (fun cs b e => by rw [e] at hsel; simp [isSelect] at hsel) fun x hx => exV_ok hS hg hl x (by simpa using hx)

def gdOf (g : Option (Nat × Bool)) (v : SV1) : SV := match g with
  | none => .one v
  | some (t, b) => .gd t b v

/-- A result as it is known behind a guard or none. -/
def gOk (n : Nat) (d : Option Nat) (g : Option (Nat × Bool)) : Bool := match g with
  | none => dstOk n d
  | some (tg, _) => match d with
    | some d => Nat.blt d n && Nat.blt tg n && !(Nat.beq tg d)
    | none => false

/-- What a view tells of the operation: it runs as the view says if it is wanted. -/
theorem semOf_ok {P : Program} {hE : GH} {w0 : World} {inc : List Nat} {n : Nat} {s : S} {h : GH} {β : Nat → Nat} {w : World} {tmps : Array Value} (hS : Sim hE w0 inc n s h β w tmps) {ops : Array Oper} {o : Oper} {m : Sem Next} {d : Option Nat} {g : Option (Nat × Bool)}
    (hv : semOf s ops o = some ⟨m, d, g⟩) (hok : gOk n d g = true) (u : Value) (sv : SV1) (hsv : ∀ N β, SV1Ok N β sv u) (W : World → Prop) (hrun : guardSays s g (∀ w : World, W w → m.run P w = .ok (.value u) w)) :
    d = o.dst ∧ dstOk n d = true ∧ (((Region.wanted o (yielded ops tmps) = true ∧ ∀ w', W w' → (execOp (evT tmps) o).run P w' = .ok (.value u) w') ∧ ∀ d, o.dst = some d → SVOk s.nb β (tmps.setIfInBounds d u) (gdOf g sv) u) ∨
      (Region.wanted o (yielded ops tmps) = false ∧ ∀ d, o.dst = some d → SVOk s.nb β (tmps.setIfInBounds d undef) (gdOf g sv) undef)) := by
  unfold semOf at hv
  split at hv
  · simp at hv
  · rename_i hsel
    split at hv
    · rename_i hg
      split at hv
      · rename_i hex
        simp only [Option.some.injEq, SemView.mk.injEq] at hv
        obtain ⟨rfl, rfl, rfl⟩ := hv
        refine ⟨rfl, hok, .inl ⟨⟨by simp [Region.wanted, hg], fun w' hw' => ?_⟩, fun d _ => hsv _ _⟩⟩
        rw [sem_exec hS GOk.nil hsel hex]
        exact hrun.bare (.inl rfl) w' hw'
      · simp at hv
    · rename_i j want hg
      split at hv
      · rename_i tg hj
        split at hv
        · rename_i hex
          simp only [Option.some.injEq, SemView.mk.injEq] at hv
          obtain ⟨rfl, rfl, rfl⟩ := hv
          unfold gOk at hok
          simp only at hok
          split at hok
          · rename_i d hd
            simp only [Bool.and_eq_true, Bool.not_eq_true'] at hok
            have htg : tg < n := Nat.le_of_ble_eq_true hok.1.2
            have hne : d ≠ tg := fun e => by have := hok.2; rw [e, Nat.beq_refl] at this; cases this
            have hwi := wanted_of (tmps := tmps) hg hj (by rw [hS.size]; exact htg)
            refine ⟨rfl, by rw [hd]; exact hok.1.1, ?_⟩
            by_cases hwt : Region.wanted o (yielded ops tmps) = true
            · have htrue := hwi.1 hwt
              refine .inl ⟨⟨hwt, fun w' hw' => ?_⟩, fun d' hd' => ?_⟩
              · rw [sem_exec hS (chain_ok hS 4 tg want htrue) hsel hex]
                exact guardSays_use hS hrun htrue w' hw'
              · rw [hd] at hd'; injection hd' with hd'; subst hd'
                exact .inl ⟨by rw [getD_set_other hne]; exact htrue, hsv _ _⟩
            · have hfalse : tmps.getD tg undef ≠ .bool want := fun e => hwt (hwi.2 e)
              refine .inr ⟨by simpa using hwt, fun d' hd' => ?_⟩
              rw [hd] at hd'; injection hd' with hd'; subst hd'
              exact .inr ⟨by rw [getD_set_other hne]; exact hfalse, rfl⟩
          · simp at hok
        · simp at hv
      · simp at hv

def semAt (c : Cfg) : Option SemView :=
  match c.todo with
  | .inRegion ops (i :: _) :: _ => match ops[i]? with
    | some o => semOf c.s ops o
    | none => none
  | _ => none

def valS (m : Sem Value) : Sem Next := do pure (.value (← m))
def unitS (m : Sem Unit) : Sem Next := do m; pure .skip

theorem run_valS {P : Program} {m : Sem Value} {w w' : World} {v : Value} (h : m.run P w = .ok v w') : (valS m).run P w = .ok (.value v) w' := by
  simp [valS, h]

/-- **An operation that only reads, by its meaning.** -/
theorem G.sem {C : Ctx} {h : GH} {c : Cfg} {m : Sem Next} {d : Option Nat} {g : Option (Nat × Bool)} (hv : semAt c = some ⟨m, d, g⟩) (hok : gOk C.n d g = true) (u : Value) (sv : SV1) (hsv : ∀ N β, SV1Ok N β sv u)
    (hrun : guardSays c.s g (∀ w, Sub h w → m.run C.P w = .ok (.value u) w)) (hk : G C h (afterOp c (gdOf g sv))) : G C h c := by
  intro β w tmps hS
  obtain ⟨todo, s⟩ := c
  unfold semAt at hv
  simp only at hv
  split at hv
  · rename_i ops i rest k
    split at hv
    · rename_i o ho
      obtain ⟨hd, hdo, hcase⟩ := semOf_ok (P := C.P) hS hv hok u sv hsv (Sub h) hrun
      have hk' := hk β w
      simp only [afterOp, ho, Option.bind_some] at hk'
      rw [hd] at hdo
      rcases hcase with ⟨⟨hwt, hr⟩, hu⟩ | ⟨hwt, hu⟩
      · refine Reach.value ho hwt (hr w hS.sub) ?_
        rw [put_tmps]
        exact hk' _ (hS.putD hdo hu)
      · refine Reach.unwanted ho hwt ?_
        rw [put_tmps]
        exact hk' _ (hS.putD hdo hu)
    · simp at hv
  · simp at hv

/-! ### Inside regions of open order -/

/-- Operation i comes up now. -/
def GDop (C : Ctx) (h0 h : GH) (ops : Array Oper) (k : List Item) (ks : List Nat) (d : DCfg) (i : Nat) : Prop :=
  ∀ β w tmps L, Sim C.hE C.w0 C.inc C.n d.s h β w tmps → L = ks.map (fun x => (β x, w.heap[β x]?)) → (∀ x ∈ ks, ∃ b, bx x d.s.boxes = some b) → GLe h0 h →
    wpOp C.P ops (Qk C k) i (fun a' w' => Stays L h0 w' ∧ wpAnyH C.P .any ops (Qk C k) (Stays L h0) (d.fuel - 1) (d.listed.setIfInBounds i true) a' w') ⟨tmps, []⟩ w

def readyIs (ops : Array Oper) (d : DCfg) (l : List Nat) : Bool := match d.fuel with
  | 0 => false
  | _ + 1 => Region.ready .any ops d.listed == l && !l.isEmpty

/-- Whatever may come up is shown. -/
theorem GD.every {C : Ctx} {h0 h : GH} {ops : Array Oper} {k : List Item} {ks : List Nat} {d : DCfg} (l : List Nat) (hr : readyIs ops d l = true) (hk : ∀ i ∈ l, GDop C h0 h ops k ks d i) : GD C h0 h ops k ks d := by
  obtain ⟨fuel, listed, s⟩ := d
  unfold readyIs at hr
  simp only at hr
  split at hr
  · simp at hr
  · rename_i fuel
    simp only [Bool.and_eq_true, beq_iff_eq, Bool.not_eq_true', List.isEmpty_eq_false_iff] at hr
    intro β w tmps L hS hL hlive hle
    exact wpAnyH_all hr.1 hr.2 fun i hi => hk i hi β w tmps L hS hL hlive hle

theorem GD.one {C : Ctx} {h0 h : GH} {ops : Array Oper} {k : List Item} {ks : List Nat} {d : DCfg} (i : Nat) (hr : readyIs ops d [i] = true) (hk : GDop C h0 h ops k ks d i) : GD C h0 h ops k ks d :=
  GD.every [i] hr fun j hj => by simp only [List.mem_singleton] at hj; subst hj; exact hk

theorem GD.two {C : Ctx} {h0 h : GH} {ops : Array Oper} {k : List Item} {ks : List Nat} {d : DCfg} (i j : Nat) (hr : readyIs ops d [i, j] = true) (hi : GDop C h0 h ops k ks d i) (hj : GDop C h0 h ops k ks d j) : GD C h0 h ops k ks d :=
  GD.every [i, j] hr fun x hx => by
    simp only [List.mem_cons, List.not_mem_nil, or_false] at hx
    rcases hx with rfl | rfl
    · exact hi
    · exact hj

def nextD (d : DCfg) (i : Nat) (s : S) : DCfg := ⟨d.fuel - 1, d.listed.setIfInBounds i true, s⟩

/-- Behind operation i, which left s' and told sv. -/
def afterN (ops : Array Oper) (d : DCfg) (i : Nat) (s : S) (sv : SV) : DCfg := nextD d i (putS s ((ops[i]?).bind (·.dst)) sv)

def callOf (s : S) (ops : Array Oper) (o : Oper) : Option CallView :=
  match o.op with
  | .call ⟨.value x, args, _⟩ => match o.guard with
    | none => match calleeS s [] x, evArgs s [] args.toList with
      | some (f, a, b), some vs => some ⟨f, a ++ vs ++ b, o.dst, none⟩
      | _, _ => none
    | some (j, want) => match (ops[j]?).bind (·.dst) with
      | some tg => match calleeS s (chain s 4 tg want) x, evArgs s (chain s 4 tg want) args.toList with
        | some (f, a, b), some vs => some ⟨f, a ++ vs ++ b, o.dst, some (tg, want)⟩
        | _, _ => none
      | none => none
  | _ => none

def callAtD (ops : Array Oper) (d : DCfg) (i : Nat) : Option CallView := match ops[i]? with
  | some o => callOf d.s ops o
  | none => none

/-- **A call inside a region of open order**, in its widest form. -/
theorem GDop.callX {C : Ctx} {h0 h : GH} {ops : Array Oper} {k : List Item} {ks : List Nat} {d : DCfg} {i : Nat} {f : FuncId} {svs : List SV1} {dst : Option Nat} (hc : callAtD ops d i = some ⟨f, svs, dst, none⟩) (he : enters C.P f = true) (hd : dstOk C.n dst = true)
    (hk : ∀ β w tmps l, Sim C.hE C.w0 C.inc C.n d.s h β w tmps → SV1sOk d.s.nb β svs l → Calls C.P f l.toArray w fun e w' => ∃ v, e = .returned v ∧
      ∃ h' s' β' sv, Sim C.hE C.w0 C.inc C.n s' h' β' w' tmps ∧ (∀ tmps', SVOk s'.nb β' tmps' sv v) ∧ GLe h h' ∧ (∀ x ∈ ks, β' x = β x ∧ w'.heap[β x]? = w.heap[β x]? ∧ ∃ b, bx x s'.boxes = some b) ∧ GD C h0 h' ops k ks (afterN ops d i s' sv)) : GDop C h0 h ops k ks d i := by
  intro β w tmps L hS hL hlive hle
  obtain ⟨fuel, listed, s⟩ := d
  unfold callAtD at hc
  simp only at hc hS
  split at hc
  · rename_i o hi
    simp only [afterN, nextD, hi, Option.bind_some] at hk
    unfold callOf at hc
    split at hc
    · rename_i x args types hop
      split at hc
      · rename_i hg
        split at hc
        · rename_i f' a b vs hx hv
          simp only [Option.some.injEq, CallView.mk.injEq] at hc
          obtain ⟨rfl, rfl, rfl, -⟩ := hc
          obtain ⟨l, hl, hrun⟩ := run_callS hS GOk.nil hop hx hv he
          refine wpOp_call hi (by simp [Region.wanted, hg]) hrun ((hk β w tmps l hS hl).mono ?_)
          rintro e w' ⟨v, rfl, h', s', β', sv, hS', hsv, hle', hks, hG⟩
          refine ⟨v, rfl, ?_⟩
          have hL' : L = ks.map (fun x => (β' x, w'.heap[β' x]?)) := by
            rw [hL]
            refine List.map_congr_left fun x hx => ?_
            obtain ⟨h1, h2, -⟩ := hks x hx
            rw [h1, h2]
          refine ⟨by rw [hL']; exact Stays.of_sim hS' (hle.trans hle') ks, ?_⟩
          rw [act_put]
          exact hG β' w' (putT tmps o.dst v) L (hS'.putD hd fun d _ => hsv _) hL' (fun x hx => by simp only [putS_boxes]; exact (hks x hx).2.2) (hle.trans hle')
        · simp at hc
      · split at hc
        · split at hc
          · simp at hc
          · simp at hc
        · simp at hc
    · simp at hc
  · simp at hc

/-- A call of a function that leaves what was there as it was; its arguments are plain values. -/
theorem GDop.callP {C : Ctx} {h0 h : GH} {ops : Array Oper} {k : List Item} {ks : List Nat} {d : DCfg} {i : Nat} {f : FuncId} {svs : List SV1} {dst : Option Nat} (hc : callAtD ops d i = some ⟨f, svs, dst, none⟩) (vals : List Value) (hv : svVals svs = some vals) (he : enters C.P f = true) (hd : dstOk C.n dst = true) (hlv : liveAll ks d.s = true)
    (Q : GH → Value → Prop) (hcall : ∀ w, Sub h w → Calls C.P f vals.toArray w fun e w' => ∃ v h', e = .returned v ∧ Grow h w h' w' ∧ Q h' v)
    (hk : ∀ h' v, Q h' v → GLe h h' → ∃ sv, (∀ N β tmps, SVOk N β tmps sv v) ∧ GD C h0 h' ops k ks (afterN ops d i d.s sv)) : GDop C h0 h ops k ks d i := by
  refine GDop.callX hc he hd fun β w tmps l hS hl => ?_
  rw [svVals_ok hv hl]
  refine (hcall w hS.sub).mono ?_
  rintro e w' ⟨v, h', rfl, hg, hq⟩
  obtain ⟨sv, h1, h2⟩ := hk h' v hq hg.le
  refine ⟨v, rfl, h', d.s, β, sv, hS.grow hg, fun tmps' => h1 _ _ _, hg.le, fun x hx => ?_, h2⟩
  obtain ⟨b, hb⟩ := liveAll_ok hlv x hx
  exact ⟨rfl, hg.below.block _ (hS.box x b hb).lt, b, hb⟩

theorem GDop.callV {C : Ctx} {h0 h : GH} {ops : Array Oper} {k : List Item} {ks : List Nat} {d : DCfg} {i : Nat} {f : FuncId} {svs : List SV1} {dst : Option Nat} (hc : callAtD ops d i = some ⟨f, svs, dst, none⟩) (vals : List Value) (v : Value) (hv : svVals svs = some vals) (he : enters C.P f = true) (hd : dstOk C.n dst = true) (hlv : liveAll ks d.s = true)
    (hcall : ∀ w, Sub h w → Calls C.P f vals.toArray w fun e w' => e = .returned v ∧ Below w.heap.size w w') (hk : GD C h0 h ops k ks (afterN ops d i d.s (.ofV v))) : GDop C h0 h ops k ks d i := by
  refine GDop.callP hc vals hv he hd hlv (fun h' u => h' = h ∧ u = v) (fun w hs => (hcall w hs).mono ?_) ?_
  · rintro e w' ⟨rfl, hb⟩
    exact ⟨v, h, rfl, .of_below hs hb, rfl, rfl⟩
  · rintro h' u ⟨rfl, rfl⟩ _
    exact ⟨.ofV u, fun N β tmps => SVofV_ok N β tmps u, hk⟩

/-- A call under a guard, inside a region of open order. -/
theorem GDop.callGV {C : Ctx} {h0 h : GH} {ops : Array Oper} {k : List Item} {ks : List Nat} {d : DCfg} {i : Nat} {f : FuncId} {svs : List SV1} {dd tg : Nat} {want : Bool} (hc : callAtD ops d i = some ⟨f, svs, some dd, some (tg, want)⟩) (vals : List Value) (v : Value) (hv : svVals svs = some vals) (he : enters C.P f = true)
    (hd : (Nat.blt dd C.n && Nat.blt tg C.n && !(Nat.beq tg dd)) = true) 
    (hcall : guardSays d.s (some (tg, want)) (∀ w, Sub h w → Calls C.P f vals.toArray w fun e w' => e = .returned v ∧ Below w.heap.size w w')) (hk : GD C h0 h ops k ks (afterN ops d i d.s (.gd tg want (.ofV v)))) : GDop C h0 h ops k ks d i := by
  intro β w tmps L hS hL hlive hle
  obtain ⟨fuel, listed, s⟩ := d
  simp only [Bool.and_eq_true, Bool.not_eq_true'] at hd
  have htg : tg < C.n := Nat.le_of_ble_eq_true hd.1.2
  have hne : dd ≠ tg := fun e => by have := hd.2; rw [e, Nat.beq_refl] at this; cases this
  unfold callAtD at hc
  simp only at hc hS hcall
  split at hc
  · rename_i o hi
    simp only [afterN, nextD, hi, Option.bind_some] at hk
    unfold callOf at hc
    split at hc
    · rename_i x args types hop
      split at hc
      · split at hc
        · simp at hc
        · simp at hc
      · rename_i j want' hg
        split at hc
        · rename_i tg' hj
          split at hc
          · rename_i f' a b' vs hx hv'
            simp only [Option.some.injEq, CallView.mk.injEq, Prod.mk.injEq] at hc
            obtain ⟨rfl, rfl, hdst, rfl, rfl⟩ := hc
            have hwi := wanted_of (tmps := tmps) hg hj (by rw [hS.size]; exact htg)
            by_cases hwt : Region.wanted o (yielded ops tmps) = true
            · have htrue := hwi.1 hwt
              obtain ⟨l, hl, hrun⟩ := run_callS hS (chain_ok hS 4 tg' want' htrue) hop hx hv' he
              refine wpOp_call hi hwt hrun ?_
              rw [svVals_ok hv hl]
              refine (guardSays_use hS hcall htrue w hS.sub).mono ?_
              rintro e w' ⟨rfl, h2⟩
              refine ⟨v, rfl, ?_⟩
              have hg' := Grow.of_below hS.sub h2
              have hL' : L = ks.map (fun x => (β x, w'.heap[β x]?)) := by
                rw [hL]
                refine List.map_congr_left fun x hx => ?_
                obtain ⟨b, hb⟩ := hlive x hx
                rw [h2.block _ (hS.box x b hb).lt]
              refine ⟨by rw [hL']; exact Stays.of_sim (hS.grow hg') hle ks, ?_⟩
              rw [act_put, hdst]
              rw [hdst] at hk
              refine hk β w' (putT tmps (some dd) v) L ((hS.grow hg').put (Nat.le_of_ble_eq_true hd.1.1) (.inl ⟨?_, SV1ofV_ok _ _ _⟩)) hL' hlive hle
              rw [getD_set_other hne]; exact htrue
            · have hfalse : tmps.getD tg' undef ≠ .bool want' := fun e => hwt (hwi.2 e)
              refine wpOp_unwanted hi (by simpa using hwt) ⟨by rw [hL]; exact Stays.of_sim hS hle ks, ?_⟩
              rw [act_put, hdst]
              rw [hdst] at hk
              refine hk β w (putT tmps (some dd) undef) L (hS.put (Nat.le_of_ble_eq_true hd.1.1) (.inr ⟨?_, rfl⟩)) hL hlive hle
              rw [getD_set_other hne]; exact hfalse
          · simp at hc
        · simp at hc
    · simp at hc
  · simp at hc

/-- An operation with its effect, computed, where several may come up. -/
def effAt (P : Program) (n : Nat) (ops : Array Oper) (ks : List Nat) (d : DCfg) (i : Nat) : Option DCfg := match d.fuel with
  | 0 => none
  | fuel + 1 => match ops[i]? with
    | some o => match o.guard, opEval P d.s [] o.op with
      | none, some (v, e) => if spares ks e && dstOk n o.dst && (!(isUpd e) || o.dst.isNone) then some ⟨fuel, d.listed.setIfInBounds i true, putS (applyEff d.s e) o.dst (.one v)⟩ else none
      | _, _ => none
    | none => none

theorem GDop.eff {C : Ctx} {h0 h : GH} {ops : Array Oper} {k : List Item} {ks : List Nat} {d : DCfg} {i : Nat} (he : (effAt C.P C.n ops ks d i).isSome = true) (hk : GD C h0 h ops k ks ((effAt C.P C.n ops ks d i).getD d)) : GDop C h0 h ops k ks d i := by
  obtain ⟨d', hd'⟩ := Option.isSome_iff_exists.1 he
  rw [hd'] at hk
  simp only [Option.getD_some] at hk
  obtain ⟨fuel, listed, s⟩ := d
  unfold effAt at hd'
  simp only at hd'
  split at hd'
  · simp at hd'
  · rename_i fuel
    split at hd'
    · rename_i o hi
      split at hd'
      · rename_i v e hg he
        split at hd'
        · rename_i hc
          simp only [Bool.and_eq_true, Bool.or_eq_true, Bool.not_eq_true'] at hc
          simp only [Option.some.injEq] at hd'; subst hd'
          intro β w tmps L hS hL hlive hle
          have hnv : noDst o.dst e := by
            cases e with
            | upd a b c =>
              show o.dst = none
              rcases hc.2 with h5 | h5
              · simp [isUpd] at h5
              · simpa using h5
            | _ => trivial
          exact GD.effOp hi hg he hc.1.1 hc.1.2 rfl hnv hk β w tmps L hS hL hlive hle
        · simp at hd'
      · simp at hd'
    · simp at hd'

/-- Operation i may be taken first. -/
def takeAtD (ops : Array Oper) (d : DCfg) (i : Nat) : Option SemView :=
  match d.fuel with
  | 0 => none
  | _ + 1 => if Region.free .any ops d.listed i && (Region.ready .any ops d.listed).contains i && Region.noSelect ops then (match ops[i]? with
    | some o => semOf d.s ops o
    | none => none) else none

def afterI (ops : Array Oper) (d : DCfg) (i : Nat) (sv : SV) : DCfg := nextD d i (putS d.s ((ops[i]?).bind (·.dst)) sv)

/-- An operation that only reads, by its meaning, inside a region of open order; it is taken first. -/
theorem GD.sem {C : Ctx} {h0 h : GH} {ops : Array Oper} {k : List Item} {ks : List Nat} {d : DCfg} (i : Nat) {m : Sem Next} {dst : Option Nat} {g : Option (Nat × Bool)} (hv : takeAtD ops d i = some ⟨m, dst, g⟩) (hok : gOk C.n dst g = true) (u : Value) (sv : SV1) (hsv : ∀ N β, SV1Ok N β sv u)
    (hrun : guardSays d.s g (∀ w, Sub h0 w → m.run C.P w = .ok (.value u) w)) (hk : GD C h0 h ops k ks (afterI ops d i (gdOf g sv))) : GD C h0 h ops k ks d := by
  obtain ⟨fuel, listed, s⟩ := d
  unfold takeAtD at hv
  simp only at hv
  split at hv
  · simp at hv
  · rename_i fuel
    split at hv
    · rename_i hc
      simp only [Bool.and_eq_true] at hc
      split at hv
      · rename_i o ho
        intro β w tmps L hS hL hlive hle
        have hst : Stays L h0 w := by rw [hL]; exact Stays.of_sim hS hle ks
        obtain ⟨hd, hdo, hcase⟩ := semOf_ok (P := C.P) hS hv hok u sv hsv (Sub h0) hrun
        simp only [afterI, nextD, ho, Option.bind_some] at hk
        rw [hd] at hdo
        have key : ∀ u : Value, YieldsIf C.P ops (Stays L h0) o u ⟨tmps, []⟩ → (∀ d, o.dst = some d → SVOk s.nb β (tmps.setIfInBounds d u) (gdOf g sv) u) → wpAnyH C.P .any ops (Qk C k) (Stays L h0) (fuel + 1) listed ⟨tmps, []⟩ w := by
          intro u hy hu
          refine wpAnyH_take ho hc.2 hc.1.1 hc.1.2 (Qk_panic _ _) hy hst ?_
          rw [act_put]
          exact hk β w _ L (hS.putD hdo hu) hL (by intro x hx; obtain ⟨b, hb⟩ := hlive x hx; exact ⟨b, by simp only [putS_boxes]; exact hb⟩) hle
        rcases hcase with ⟨⟨hwt, hr⟩, hu⟩ | ⟨hwt, hu⟩
        · exact key u (.inl ⟨hwt, fun w' hw' => hr w' hw'.2⟩) hu
        · exact key undef (.inr ⟨hwt, rfl⟩) hu
      · simp at hv
    · simp at hv

/-- The end of a region of open order. -/
def doneD (ops : Array Oper) (d : DCfg) : Bool := (Region.ready .any ops d.listed).isEmpty

theorem GD.fin {C : Ctx} {h0 h : GH} {ops : Array Oper} {k : List Item} {ks : List Nat} {d : DCfg} (hd : doneD ops d = true) (hG : G C h ⟨k, d.s⟩) : GD C h0 h ops k ks d :=
  GD.done (by simpa [doneD, List.isEmpty_iff] using hd) hG

/-! ### The runner, regions of open order too -/

def liveKeys : List (Nat × Box) → List Nat
  | [] => []
  | (k, _) :: l => k :: liveKeys l

def stepE (P : Program) (n : Nat) (c : Cfg) : Option Cfg :=
  match stepC P n c with
  | some c' => some c'
  | none => match drawAt c with
    | some ops =>
      let d := runD P n ops (liveKeys c.s.boxes) 100 (startD c)
      if doneD ops d && Region.noSelect ops then some ⟨restOf c, d.s⟩ else none
    | none => none

def runE (P : Program) (n : Nat) : Nat → Cfg → Cfg
  | 0, c => c
  | m + 1, c => match stepE P n c with
    | some c' => runE P n m c'
    | none => c

theorem liveKeys_ok (l : List (Nat × Box)) : ∀ x ∈ liveKeys l, ∃ b, bx x l = some b := by
  induction l with
  | nil => simp [liveKeys]
  | cons p l ih =>
    obtain ⟨k, b⟩ := p
    intro x hx
    simp only [liveKeys, List.mem_cons] at hx
    rw [bx_cons]
    by_cases e : k = x
    · exact ⟨b, by rw [if_pos e]⟩
    · rw [if_neg e]
      exact ih x (hx.resolve_left fun e' => e e'.symm)

theorem liveAll_of {ks : List Nat} {s : S} (h : ∀ x ∈ ks, ∃ b, bx x s.boxes = some b) : liveAll ks s = true := by
  induction ks with
  | nil => rfl
  | cons k l ih =>
    simp only [liveAll, Bool.and_eq_true]
    exact ⟨by obtain ⟨b, hb⟩ := h k (by simp); simp [hb], ih fun x hx => h x (by simp [hx])⟩

theorem G.of_stepE {C : Ctx} {h : GH} (hm : C.P.follows .mixedOrders = true) {c c' : Cfg} (hs : stepE C.P C.n c = some c') (h' : G C h c') : G C h c := by
  unfold stepE at hs
  split at hs
  · rename_i c'' hc
    simp only [Option.some.injEq] at hs; subst hs
    exact G.of_stepC hc h'
  · split at hs
    · rename_i ops hd
      simp only at hs
      split at hs
      · rename_i hf
        simp only [Bool.and_eq_true] at hf
        simp only [Option.some.injEq] at hs; subst hs
        refine G.draw (liveKeys c.s.boxes) hm (by rw [hd]; rfl) (liveAll_of (liveKeys_ok _)) ?_
        have hops : opsOf c = ops := by simp [opsOf, hd]
        rw [hops]
        exact GD.run hf.2 100 (GD.fin hf.1 h')
      · simp at hs
    · simp at hs

/-- **The runner may be taken.** -/
theorem G.runE {C : Ctx} {h : GH} (hm : C.P.follows .mixedOrders = true) : ∀ (m : Nat) {c : Cfg}, G C h (runE C.P C.n m c) → G C h c
  | 0, _, h' => h'
  | m + 1, c, h' => by
    unfold Ytkjahaoobdbffaa.runE at h'
    cases hs : stepE C.P C.n c with
    | none => rw [hs] at h'; exact h'
    | some c' => rw [hs] at h'; exact G.of_stepE hm hs (G.runE hm m h')

/-! ### Forgetting -/

def keyLt (n : Nat) : Cell → Bool
  | .ptr k _ => Nat.blt k n
  | .bsl k _ _ _ => Nat.blt k n
  | .clo _ _ k _ => Nat.blt k n
  | _ => true

def keysLt (n : Nat) : List Cell → Bool
  | [] => true
  | c :: cs => keyLt n c && keysLt n cs

def keyLt1 (n : Nat) : SV1 → Bool
  | .atom c => keyLt n c
  | .agg cs => keysLt n cs

def keysLt1 (n : Nat) : List SV1 → Bool
  | [] => true
  | c :: cs => keyLt1 n c && keysLt1 n cs

def keyLtS (n : Nat) : SV → Bool
  | .one v => keyLt1 n v
  | .tup vs => keysLt1 n vs
  | .gd _ _ v => keyLt1 n v

def keyLtB (n : Nat) : BoxB → Bool
  | .lit _ cs => keysLt n cs
  | .obj _ => true

def okSlots (n : Nat) : List (Nat × SV) → Bool
  | [] => true
  | (_, sv) :: l => keyLtS n sv && okSlots n l

def okBoxes (n : Nat) : List (Nat × Box) → Bool
  | [] => true
  | (k, b) :: l => Nat.blt k n && keyLtB n b.body && okBoxes n l

theorem CellOk.shrink {N N' : Nat} {β : Nat → Nat} {c : Cell} {v : Value} (h : CellOk N β c v) (hk : keyLt N' c = true) : CellOk N' β c v := by
  cases c <;> simp only [CellOk] at h ⊢ <;> try exact h
  all_goals exact ⟨h.1, Nat.le_of_ble_eq_true hk⟩

theorem CellsOk.shrink {N N' : Nat} {β : Nat → Nat} {cs : List Cell} {vs : List Value} (h : CellsOk N β cs vs) (hk : keysLt N' cs = true) : CellsOk N' β cs vs := by
  induction cs generalizing vs with
  | nil => cases vs <;> simp_all [CellsOk]
  | cons c cs ih => cases vs with
    | nil => simp [CellsOk] at h
    | cons v vs =>
      simp only [keysLt, Bool.and_eq_true] at hk
      exact ⟨h.1.shrink hk.1, ih h.2 hk.2⟩

theorem SV1Ok.shrink {N N' : Nat} {β : Nat → Nat} {c : SV1} {v : Value} (h : SV1Ok N β c v) (hk : keyLt1 N' c = true) : SV1Ok N' β c v := by
  cases c with
  | atom c => exact CellOk.shrink h hk
  | agg cs => obtain ⟨arr, rfl, h⟩ := h; exact ⟨arr, rfl, h.shrink hk⟩

theorem SV1sOk.shrink {N N' : Nat} {β : Nat → Nat} {cs : List SV1} {vs : List Value} (h : SV1sOk N β cs vs) (hk : keysLt1 N' cs = true) : SV1sOk N' β cs vs := by
  induction cs generalizing vs with
  | nil => cases vs <;> simp_all [SV1sOk]
  | cons c cs ih => cases vs with
    | nil => simp [SV1sOk] at h
    | cons v vs =>
      simp only [keysLt1, Bool.and_eq_true] at hk
      exact ⟨h.1.shrink hk.1, ih h.2 hk.2⟩

theorem SVOk.shrink {N N' : Nat} {β : Nat → Nat} {tmps : Array Value} {c : SV} {v : Value} (h : SVOk N β tmps c v) (hk : keyLtS N' c = true) : SVOk N' β tmps c v := by
  cases c with
  | one c => exact SV1Ok.shrink h hk
  | tup cs => obtain ⟨arr, rfl, h⟩ := h; exact ⟨arr, rfl, h.shrink hk⟩
  | gd t b c => exact h.imp (fun ⟨a, b⟩ => ⟨a, b.shrink hk⟩) id

theorem BoxOk.shrink {N N' : Nat} {β : Nat → Nat} {w : World} {n : Nat} {b : BoxB} (h : BoxOk N β w n b) (hk : keyLtB N' b = true) : BoxOk N' β w n b := by
  cases b with
  | lit T cs => obtain ⟨arr, e, h⟩ := h; exact ⟨arr, e, h.shrink hk⟩
  | obj o => exact h

def slotRows (s : S) : List Nat → List (Nat × SV)
  | [] => []
  | t :: ts => (t, lk t s.slots) :: slotRows s ts

def boxRows (s : S) : List Nat → List (Nat × Box)
  | [] => []
  | k :: ks => match bx k s.boxes with
    | some b => (k, b) :: boxRows s ks
    | none => boxRows s ks

def ownRows (s : S) : List Nat → List (Nat × Own)
  | [] => []
  | k :: ks => match ow k s.owns with
    | some b => (k, b) :: ownRows s ks
    | none => ownRows s ks

theorem ow_cons (k l : Nat) (b : Own) (bs : List (Nat × Own)) : ow k ((l, b) :: bs) = if l = k then some b else ow k bs := by
  simp only [ow]
  by_cases h : l = k
  · subst h; simp
  · have : Nat.beq l k = false := by
      cases hb : Nat.beq l k
      · rfl
      · exact absurd (Nat.eq_of_beq_eq_true hb) h
    simp [this, h]

theorem ow_rows {s : S} {k : Nat} {b : Own} : ∀ (ks : List Nat), ow k (ownRows s ks) = some b → ow k s.owns = some b := by
  intro ks
  induction ks with
  | nil => intro h; simp [ownRows, ow] at h
  | cons x ks ih =>
    intro h
    simp only [ownRows] at h
    split at h
    · rename_i b' hb'
      rw [ow_cons] at h
      split at h
      · rename_i e; subst e; rw [hb']; exact h
      · exact ih h
    · exact ih h

/-- These slots, blocks and slices alone. -/
def restrS (ts ks : List Nat) (nb : Nat) (os : List Nat) (s : S) : S := ⟨slotRows s ts, boxRows s ks, nb, ownRows s os⟩

theorem lkAux_rows (s : S) (t : Nat) : ∀ (ts : List Nat) (newer : List Nat), lkAux t newer (slotRows s ts) = lk t s.slots ∨ lkAux t newer (slotRows s ts) = anyS := by
  intro ts
  induction ts with
  | nil => intro newer; exact .inr rfl
  | cons x ts ih =>
    intro newer
    simp only [slotRows, lkAux]
    split
    · rename_i hx
      have hx := Nat.eq_of_beq_eq_true hx; subst hx
      split
      · split
        · exact .inr rfl
        · exact .inl rfl
      · exact .inl rfl
    · exact ih _

theorem bx_rows {s : S} {k : Nat} {b : Box} : ∀ (ks : List Nat), bx k (boxRows s ks) = some b → bx k s.boxes = some b := by
  intro ks
  induction ks with
  | nil => intro h; simp [boxRows, bx] at h
  | cons x ks ih =>
    intro h
    simp only [boxRows] at h
    split at h
    · rename_i b' hb'
      rw [bx_cons] at h
      split at h
      · rename_i e; subst e; rw [hb']; exact h
      · exact ih h
    · exact ih h

theorem okSlots_lk {n t : Nat} : ∀ (l : List (Nat × SV)) (newer : List Nat), okSlots n l = true → keyLtS n (lkAux t newer l) = true := by
  intro l
  induction l with
  | nil => intro _ _; rfl
  | cons p l ih =>
    obtain ⟨x, sv⟩ := p
    intro newer h
    simp only [okSlots, Bool.and_eq_true] at h
    simp only [lkAux]
    split
    · split
      · split
        · rfl
        · exact h.1
      · exact h.1
    · exact ih _ h.2

theorem okBoxes_bx {n k : Nat} {b : Box} : ∀ (l : List (Nat × Box)), okBoxes n l = true → bx k l = some b → k < n ∧ keyLtB n b.body = true := by
  intro l
  induction l with
  | nil => intro _ h; simp [bx] at h
  | cons p l ih =>
    obtain ⟨x, c⟩ := p
    intro h hb
    simp only [okBoxes, Bool.and_eq_true] at h
    rw [bx_cons] at hb
    split at hb
    · rename_i e; subst e
      simp only [Option.some.injEq] at hb; subst hb
      exact ⟨Nat.le_of_ble_eq_true h.1.1, h.1.2⟩
    · exact ih h.2 hb

def okS (s : S) : Bool := okSlots s.nb s.slots && okBoxes s.nb s.boxes

theorem Sim.restr {hE : GH} {w0 : World} {inc : List Nat} {n : Nat} {s : S} {h : GH} {β : Nat → Nat} {w : World} {tmps : Array Value} (hS : Sim hE w0 inc n s h β w tmps) {ts ks : List Nat} {nb : Nat} {os : List Nat} (hok : okS (restrS ts ks nb os s) = true) : Sim hE w0 inc n (restrS ts ks nb os s) h β w tmps := by
  simp only [okS, Bool.and_eq_true] at hok
  refine ⟨hS.size, fun t => ?_, fun k b hk => ?_, fun k l b c hk hl => hS.inj k l b c (bx_rows ks hk) (bx_rows ks hl), fun k b hk => (okBoxes_bx _ hok.2 hk).1, fun k b hk => hS.fresh k b (bx_rows ks hk), hS.ghost, fun k b hk => hS.gno k b (bx_rows ks hk), hS.frame, hS.gle, hS.gold,
    fun k o ho => hS.own k o (ow_rows os ho), fun k o b ho hb => ⟨(hS.ownB k o b (ow_rows os ho) hb).1, fun j x hj => (hS.ownB k o b (ow_rows os ho) hb).2.1 j x (bx_rows ks hj), (hS.ownB k o b (ow_rows os ho) hb).2.2⟩, fun k l o p b ho hp => hS.ownI k l o p b (ow_rows os ho) (ow_rows os hp)⟩
  · have h1 : keyLtS nb (lk t (slotRows s ts)) = true := okSlots_lk _ _ hok.1
    show SVOk nb β tmps (lk t (slotRows s ts)) _
    rcases lkAux_rows s t ts [] with e | e
    · have e' : lk t (slotRows s ts) = lk t s.slots := e
      rw [e'] at h1 ⊢
      exact (hS.slots t).shrink h1
    · have e' : lk t (slotRows s ts) = anyS := e
      rw [e']; exact trivial
  · exact (hS.box k b (bx_rows ks hk)).shrink (okBoxes_bx _ hok.2 hk).2

theorem G.weaken {C : Ctx} {h : GH} {c : Cfg} {s' : S} (ts ks : List Nat) (nb : Nat) (os : List Nat) (he : restrS ts ks nb os c.s = s') (hok : okS s' = true) (hk : G C h ⟨c.todo, s'⟩) : G C h c := by
  subst he
  intro β w tmps hS
  exact hk β w tmps (hS.restr hok)

/-- What a slot is known to hold is said in other words. -/
theorem G.reslot {C : Ctx} {h : GH} {c : Cfg} (t : Nat) (sv sv' : SV) (hl : lk t c.s.slots = sv) (hi : ∀ N β tmps v, SVOk N β tmps sv v → SVOk N β tmps sv' v) (hk : G C h ⟨c.todo, { c.s with slots := (t, sv') :: c.s.slots }⟩) : G C h c := by
  intro β w tmps hS
  refine hk β w tmps ⟨hS.size, fun x => ?_, hS.box, hS.inj, hS.keys, hS.fresh, hS.ghost, hS.gno, hS.frame, hS.gle, hS.gold, hS.own, hS.ownB, hS.ownI⟩
  show SVOk c.s.nb β tmps (lk x ((t, sv') :: c.s.slots)) _
  rw [lk_put]
  by_cases e : t = x
  · subst e
    rw [if_pos rfl]
    exact hi _ _ _ _ (hl ▸ hS.slots t)
  · rw [if_neg e]
    have hs := hS.slots x
    cases hx : lk x c.s.slots with
    | one v => rw [hx] at hs; exact hs
    | tup v => rw [hx] at hs; exact hs
    | gd g b v =>
      rw [hx] at hs
      simp only
      split
      · exact trivial
      · exact hs

theorem G.reint {C : Ctx} {h : GH} {c : Cfg} (t : Nat) {k : IntKind} {a b : Int} (hl : lk t c.s.slots = .one (.atom (.int k a))) (e : a = b) (hk : G C h ⟨c.todo, { c.s with slots := (t, .one (.atom (.int k b))) :: c.s.slots }⟩) : G C h c :=
  G.reslot t _ _ hl (fun N β tmps v hv => by subst e; exact hv) hk

theorem G.rebool {C : Ctx} {h : GH} {c : Cfg} (t : Nat) {a b : Bool} (hl : lk t c.s.slots = .one (.atom (.bool a))) (e : a = b) (hk : G C h ⟨c.todo, { c.s with slots := (t, .one (.atom (.bool b))) :: c.s.slots }⟩) : G C h c :=
  G.reslot t _ _ hl (fun N β tmps v hv => by subst e; exact hv) hk

/-! ### Loops -/

def isLoop (c : Cfg) : Bool := match c.todo with
  | .code (.loop _) :: _ => true
  | _ => false

def loopIn (c : Cfg) : List Item := match c.todo with
  | .code (.loop body) :: k => .code body :: .inLoop body :: k
  | t => t

def loopBack (c : Cfg) : List Item := match c.todo with
  | .code (.loop body) :: k => .inLoop body :: k
  | t => t

theorem G.loop {α : Type} {C : Ctx} {h : GH} {c : Cfg} (st : α → S) (Φ : α → GH → Prop) (μ : α → Nat) (x0 : α) (ts ks : List Nat) (nb : Nat) (os : List Nat) (hl : isLoop c = true) (h0 : restrS ts ks nb os c.s = st x0) (hok : okS (st x0) = true) (hΦ : Φ x0 h)
    (round : ∀ x h, Φ x h → (∀ y h', Φ y h' → μ y < μ x → G C h' ⟨loopBack c, st y⟩) → G C h ⟨loopIn c, st x⟩) : G C h c := by
  obtain ⟨todo, s⟩ := c
  unfold isLoop at hl
  simp only at hl
  split at hl
  · rename_i body k
    have hin : loopIn ⟨.code (.loop body) :: k, s⟩ = .code body :: .inLoop body :: k := rfl
    have hback : loopBack ⟨.code (.loop body) :: k, s⟩ = .inLoop body :: k := rfl
    rw [hin, hback] at round
    have all : ∀ n x h, μ x = n → Φ x h → G C h ⟨.code body :: .inLoop body :: k, st x⟩ := by
      intro n
      induction n using Nat.strongRecOn with
      | _ n ih =>
        intro x h hn hx
        refine round x h hx fun y h' hy hlt => ?_
        intro β w tmps hS
        refine Reach.step (fun cs => ?_) (ih (μ y) (hn ▸ hlt) y h' rfl hy β w tmps hS)
        rw [fr0_at, fr0_at]; exact step_inLoop
    refine G.weaken ts ks nb os h0 hok ?_
    intro β w tmps hS
    refine Reach.step (fun cs => ?_) (all _ x0 h rfl hΦ β w tmps hS)
    rw [fr0_at, fr0_at]; exact step_loop
  · simp at hl

/-- The round is over. -/
theorem G.back {C : Ctx} {h : GH} {c : Cfg} {todo : List Item} {s' : S} (ht : c.todo = todo) (ts ks : List Nat) (nb : Nat) (os : List Nat) (he : restrS ts ks nb os c.s = s') (hok : okS s' = true) (hk : G C h ⟨todo, s'⟩) : G C h c :=
  G.weaken ts ks nb os he hok (by rw [ht]; exact hk)
end Go.Proofs.Ytkjahaoobdbffaa
