/- The base of this seat's proofs, eighth part: regions whose order is open. -/
import Derived.Test.YtkjahaoobdbffaaB7
namespace Go.Proofs.Ytkjahaoobdbffaa
open Go Go.RowKit

/-- What a slot is told by an operation that changes nothing. -/
def opSV (P : Program) (n : Nat) (s : S) (ops : Array Oper) (o : Oper) : Option SV :=
  match o.guard with
  | none => match opEval P s [] o.op with
    | some (v, .no) => if dstOk n o.dst then some (.one v) else none
    | some _ => none
    | none => match tupOf s o.op with
      | some vs => if dstOk n o.dst then some (.tup vs) else none
      | none => none
  | some (j, want) => match (ops[j]?).bind (·.dst), o.dst with
    | some tg, some d => match opEval P s (chain s 4 tg want) o.op with
      | some (v, .no) => if Nat.blt d n && Nat.blt tg n && !(Nat.beq tg d) then some (.gd tg want v) else none
      | _ => none
    | _, _ => none

def memN (x : Nat) : List Nat → Bool
  | [] => false
  | y :: l => Nat.beq y x || memN x l

theorem memN_iff {x : Nat} {l : List Nat} : memN x l = true ↔ x ∈ l := by
  induction l with
  | nil => simp [memN]
  | cons y l ih => simp only [memN, Bool.or_eq_true, nbeq_iff, List.mem_cons, ih]; constructor <;> (rintro (h | h) <;> simp_all)

def keepB (ks : List Nat) : List (Nat × Box) → List (Nat × Box)
  | [] => []
  | (k, b) :: l => if memN k ks then (k, b) :: keepB ks l else keepB ks l

theorem bx_keep {ks : List Nat} {k : Nat} {b : Box} {l : List (Nat × Box)} (h : bx k (keepB ks l) = some b) : bx k l = some b ∧ k ∈ ks := by
  induction l with
  | nil => simp [keepB, bx] at h
  | cons p l ih =>
    obtain ⟨x, c⟩ := p
    simp only [keepB] at h
    by_cases hm : memN x ks = true
    · rw [if_pos hm, bx_cons] at h
      rw [bx_cons]
      by_cases e : x = k
      · rw [if_pos e] at h ⊢; exact ⟨h, by rw [← e]; exact memN_iff.1 hm⟩
      · rw [if_neg e] at h ⊢; exact ih h
    · rw [if_neg hm] at h
      have := ih h
      rw [bx_cons]
      by_cases e : x = k
      · exact absurd (memN_iff.2 (e ▸ this.2)) hm
      · rw [if_neg e]; exact this

def takeS (ks : List Nat) (s : S) : S := { s with boxes := keepB ks s.boxes }

theorem Sim.take {hE : GH} {w0 : World} {inc : List Nat} {n : Nat} {s : S} {h : GH} {β : Nat → Nat} {w : World} {tmps : Array Value} (hS : Sim hE w0 inc n s h β w tmps) (ks : List Nat) : Sim hE w0 inc n (takeS ks s) h β w tmps where
  size := hS.size
  slots := hS.slots
  box k b hb := hS.box k b (bx_keep hb).1
  inj k l b c hk hl := hS.inj k l b c (bx_keep hk).1 (bx_keep hl).1
  keys k b hb := hS.keys k b (bx_keep hb).1
  fresh k b hb := hS.fresh k b (bx_keep hb).1
  ghost := hS.ghost
  gno k b hb := hS.gno k b (bx_keep hb).1
  frame := hS.frame
  gle := hS.gle
  gold := hS.gold
  own := hS.own
  ownB k o b ho hb := ⟨(hS.ownB k o b ho hb).1, fun j x hj => (hS.ownB k o b ho hb).2.1 j x (bx_keep hj).1, (hS.ownB k o b ho hb).2.2⟩
  ownI := hS.ownI

/-- What stays, as long as the region runs. -/
def Stays (L : List (Nat × Option Obj)) (h0 : GH) (w : World) : Prop := (∀ p ∈ L, w.heap[p.1]? = p.2) ∧ Sub h0 w

def Qk (C : Ctx) (k : List Item) : Exit → Act → World → Prop
  | .normal, a, w => a.defers = [] ∧ Reach C a.tmps k w
  | _, _, _ => False

structure DCfg where
  fuel : Nat
  listed : Array Bool
  s : S

/-- **THE GOAL inside a region whose order is open.** -/
def GD (C : Ctx) (h0 h : GH) (ops : Array Oper) (k : List Item) (ks : List Nat) (d : DCfg) : Prop :=
  ∀ β w tmps L, Sim C.hE C.w0 C.inc C.n d.s h β w tmps → L = ks.map (fun x => (β x, w.heap[β x]?)) → (∀ x ∈ ks, ∃ b, bx x d.s.boxes = some b) → GLe h0 h →
    wpAnyH C.P .any ops (Qk C k) (Stays L h0) d.fuel d.listed ⟨tmps, []⟩ w

theorem Stays.of_sim {hE : GH} {w0 : World} {inc : List Nat} {n : Nat} {s : S} {h0 h : GH} {β : Nat → Nat} {w : World} {tmps : Array Value} (hS : Sim hE w0 inc n s h β w tmps) (hle : GLe h0 h) (ks : List Nat) : Stays (ks.map fun x => (β x, w.heap[β x]?)) h0 w :=
  ⟨fun p hp => by obtain ⟨x, _, rfl⟩ := List.mem_map.1 hp; rfl, fun b o hb => hS.ghost b o (hle b o hb)⟩

theorem GD.done {C : Ctx} {h0 h : GH} {ops : Array Oper} {k : List Item} {ks : List Nat} {d : DCfg} (hr : Region.ready .any ops d.listed = []) (hG : G C h ⟨k, d.s⟩) : GD C h0 h ops k ks d := by
  intro β w tmps L hS _ _ _
  exact wpAnyH_done hr ⟨rfl, hG β w tmps hS⟩ _

theorem Qk_panic {C : Ctx} {k : List Item} (d : Option Tmp) (v : Value) : ∀ c a w, Qk C k (.panic c) (Act.put a d v) w → Qk C k (.panic c) a w := fun _ _ _ h => h

def putT (tmps : Array Value) (d : Option Nat) (v : Value) : Array Value := match d with
  | some d => tmps.setIfInBounds d v
  | none => tmps

theorem act_put (tmps : Array Value) (d : Option Nat) (v : Value) : (⟨tmps, []⟩ : Act).put d v = ⟨putT tmps d v, []⟩ := by
  cases d <;> rfl

theorem opSV_ok {P : Program} {hE : GH} {w0 : World} {inc : List Nat} {n : Nat} {s : S} {h : GH} {β : Nat → Nat} {w : World} {tmps : Array Value} (hS : Sim hE w0 inc n s h β w tmps) {ops : Array Oper} {o : Oper} {sv : SV} (hv : opSV P n s ops o = some sv) :
    dstOk n o.dst = true ∧ ∃ u, (Region.wanted o (yielded ops tmps) = true ∧ ∀ w' : World, (∀ k b, bx k s.boxes = some b → w'.heap[β k]? = w.heap[β k]?) → (execOp (evT tmps) o).run P w' = .ok (.value u) w') ∧ (∀ d, o.dst = some d → SVOk s.nb β (tmps.setIfInBounds d u) sv u) ∨
      dstOk n o.dst = true ∧ Region.wanted o (yielded ops tmps) = false ∧ (∀ d, o.dst = some d → SVOk s.nb β (tmps.setIfInBounds d undef) sv undef) := by
  unfold opSV at hv
  split at hv
  · rename_i hg
    split at hv
    · rename_i v he
      split at hv
      · rename_i hd
        simp only [Option.some.injEq] at hv; subst hv
        obtain ⟨u, h1, h2⟩ := opEval_ok hS GOk.nil he
        exact ⟨hd, u, .inl ⟨⟨by simp [Region.wanted, hg], h2⟩, fun d _ => h1⟩⟩
      · simp at hv
    · simp at hv
    · split at hv
      · rename_i vs ht
        split at hv
        · rename_i hd
          simp only [Option.some.injEq] at hv; subst hv
          obtain ⟨arr, harr, hr⟩ := tupOf_ok (P := P) hS ht
          exact ⟨hd, .tuple arr, .inl ⟨⟨by simp [Region.wanted, hg], fun w' _ => hr w'⟩, fun d _ => ⟨arr, rfl, harr⟩⟩⟩
        · simp at hv
      · simp at hv
  · rename_i j want hg
    split at hv
    · rename_i tg d hj hd
      split at hv
      · rename_i v he
        split at hv
        · rename_i hc
          simp only [Bool.and_eq_true, Bool.not_eq_true'] at hc
          have htg : tg < n := Nat.le_of_ble_eq_true hc.1.2
          have hne : d ≠ tg := fun e => by have := hc.2; rw [e, Nat.beq_refl] at this; cases this
          simp only [Option.some.injEq] at hv; subst hv
          have hwi := wanted_of (tmps := tmps) hg hj (by rw [hS.size]; exact htg)
          refine ⟨by rw [hd]; exact hc.1.1, ?_⟩
          by_cases hwt : Region.wanted o (yielded ops tmps) = true
          · have htrue := hwi.1 hwt
            obtain ⟨u, h1, h2⟩ := opEval_ok hS (chain_ok hS 4 tg want htrue) he
            refine ⟨u, .inl ⟨⟨hwt, h2⟩, fun d' hd' => ?_⟩⟩
            rw [hd] at hd'; injection hd' with hd'; subst hd'
            exact .inl ⟨by rw [getD_set_other hne]; exact htrue, h1⟩
          · have hfalse : tmps.getD tg undef ≠ .bool want := fun e => hwt (hwi.2 e)
            refine ⟨undef, .inr ⟨by rw [hd]; exact hc.1.1, by simpa using hwt, fun d' hd' => ?_⟩⟩
            rw [hd] at hd'; injection hd' with hd'; subst hd'
            exact .inr ⟨by rw [getD_set_other hne]; exact hfalse, rfl⟩
        · simp at hv
      · simp at hv
    · simp at hv

theorem Sim.putD {hE : GH} {w0 : World} {inc : List Nat} {n : Nat} {s : S} {h : GH} {β : Nat → Nat} {w : World} {tmps : Array Value} (hS : Sim hE w0 inc n s h β w tmps) {dst : Option Nat} (hd : dstOk n dst = true) {sv : SV} {u : Value}
    (hv : ∀ d, dst = some d → SVOk s.nb β (tmps.setIfInBounds d u) sv u) : Sim hE w0 inc n (putS s dst sv) h β w (putT tmps dst u) := by
  cases dst with
  | none => exact hS
  | some d => exact hS.put (Nat.le_of_ble_eq_true hd) (hv d rfl)

/-- An operation that changes nothing, and reads what stays, is taken. -/
theorem GD.take {C : Ctx} {h0 h : GH} {ops : Array Oper} {k : List Item} {ks : List Nat} {fuel : Nat} {listed : Array Bool} {s : S} {i : Nat} {o : Oper} {sv : SV} (hi : ops[i]? = some o)
    (hs : Region.noSelect ops = true) (hf : Region.free .any ops listed i = true) (hr : (Region.ready .any ops listed).contains i = true) (hv : opSV C.P C.n (takeS ks s) ops o = some sv)
    (hk : GD C h0 h ops k ks ⟨fuel, listed.setIfInBounds i true, putS s o.dst sv⟩) : GD C h0 h ops k ks ⟨fuel + 1, listed, s⟩ := by
  intro β w tmps L hS hL hlive hle
  have hst : Stays L h0 w := by rw [hL]; exact Stays.of_sim hS hle ks
  obtain ⟨hd, u, hcase⟩ := opSV_ok (hS.take ks) hv
  have key : ∀ u : Value, YieldsIf C.P ops (Stays L h0) o u ⟨tmps, []⟩ → (∀ d, o.dst = some d → SVOk s.nb β (tmps.setIfInBounds d u) sv u) → wpAnyH C.P .any ops (Qk C k) (Stays L h0) (fuel + 1) listed ⟨tmps, []⟩ w := by
    intro u hy hu
    refine wpAnyH_take hi hs hf hr (Qk_panic _ _) hy hst ?_
    rw [act_put]
    exact hk β w _ L (hS.putD hd hu) hL (by intro x hx; obtain ⟨b, hb⟩ := hlive x hx; exact ⟨b, by cases o.dst <;> exact hb⟩) hle
  rcases hcase with ⟨⟨hwt, hrun⟩, hu⟩ | ⟨_, hwt, hu⟩
  · refine key u (.inl ⟨hwt, fun w' hw' => hrun w' fun x b hb => ?_⟩) hu
    have hx := (bx_keep hb).2
    have h1 := hw'.1 (β x, w.heap[β x]?) (by rw [hL]; exact List.mem_map.2 ⟨x, hx, rfl⟩)
    exact h1
  · exact key undef (.inr ⟨hwt, rfl⟩) hu

/-- Where only one operation may come up. -/
theorem GD.only {C : Ctx} {h0 h : GH} {ops : Array Oper} {k : List Item} {ks : List Nat} {fuel : Nat} {listed : Array Bool} {s : S} {i : Nat} (hr : Region.ready .any ops listed = [i])
    (hk : ∀ β w tmps L, Sim C.hE C.w0 C.inc C.n s h β w tmps → L = ks.map (fun x => (β x, w.heap[β x]?)) → (∀ x ∈ ks, ∃ b, bx x s.boxes = some b) → GLe h0 h →
      wpOp C.P ops (Qk C k) i (fun a' w' => Stays L h0 w' ∧ wpAnyH C.P .any ops (Qk C k) (Stays L h0) fuel (listed.setIfInBounds i true) a' w') ⟨tmps, []⟩ w) : GD C h0 h ops k ks ⟨fuel + 1, listed, s⟩ := by
  intro β w tmps L hS hL hlive hle
  refine wpAnyH_all hr (by simp) fun j hj => ?_
  simp only [List.mem_singleton] at hj; subst hj
  exact hk β w tmps L hS hL hlive hle

theorem wpOp_value {P : Program} {ops : Array Oper} {Q : Exit → Act → World → Prop} {i : Nat} {o : Oper} (hi : ops[i]? = some o) {K : Act → World → Prop} {a : Act} {w w' : World} {v : Value} (hw : Region.wanted o (yielded ops a.tmps) = true)
    (hr : (execOp a.eval o).run P w = .ok (.value v) w') (h : K (a.put o.dst v) w') : wpOp P ops Q i K a w := by
  unfold wpOp; simp only [hi, hw, if_true, Oper.wp, hr, Oper.upon]; exact .inl h
theorem wpOp_skip {P : Program} {ops : Array Oper} {Q : Exit → Act → World → Prop} {i : Nat} {o : Oper} (hi : ops[i]? = some o) {K : Act → World → Prop} {a : Act} {w w' : World} (hw : Region.wanted o (yielded ops a.tmps) = true)
    (hr : (execOp a.eval o).run P w = .ok .skip w') (h : K (a.put o.dst undef) w') : wpOp P ops Q i K a w := by
  unfold wpOp; simp only [hi, hw, if_true, Oper.wp, hr, Oper.upon]; exact .inl h
theorem wpOp_unwanted {P : Program} {ops : Array Oper} {Q : Exit → Act → World → Prop} {i : Nat} {o : Oper} (hi : ops[i]? = some o) {K : Act → World → Prop} {a : Act} {w : World} (hw : Region.wanted o (yielded ops a.tmps) = false)
    (h : K (a.put o.dst undef) w) : wpOp P ops Q i K a w := by
  unfold wpOp; simp only [hi, hw, Bool.false_eq_true, if_false]; exact h
theorem wpOp_call {P : Program} {ops : Array Oper} {Q : Exit → Act → World → Prop} {i : Nat} {o : Oper} (hi : ops[i]? = some o) {K : Act → World → Prop} {a : Act} {w w' : World} {f : FuncId} {args : Array Value} (hw : Region.wanted o (yielded ops a.tmps) = true)
    (hr : (execOp a.eval o).run P w = .ok (.enter f args) w') (hc : Calls P f args w' fun e w'' => ∃ v, e = .returned v ∧ K (a.put o.dst v) w'') : wpOp P ops Q i K a w := by
  unfold wpOp; simp only [hi, hw, if_true, Oper.wp, hr, Oper.upon]
  refine .inl (hc.mono ?_)
  rintro e w'' ⟨v, rfl, hk⟩
  exact hk

/-- Does an effect spare the blocks that stay? -/
def spares (ks : List Nat) : Eff → Bool
  | .upd k _ _ => !(memN k ks)
  | _ => true

theorem applyEff_live {s : S} {e : Eff} {x : Nat} (h : ∃ b, bx x s.boxes = some b) : ∃ b, bx x (applyEff s e).boxes = some b := by
  obtain ⟨b, hb⟩ := h
  cases e with
  | no => exact ⟨b, hb⟩
  | new T cs => simp only [applyEff, bx_cons]; split <;> simp_all
  | upd k T cs =>
    simp only [applyEff]
    split
    · simp only [bx_cons]; split <;> simp_all
    · exact ⟨b, hb⟩

theorem putS_boxes (s : S) (d : Option Nat) (sv : SV) : (putS s d sv).boxes = s.boxes := by cases d <;> rfl

def noDst (d : Option Nat) : Eff → Prop
  | .upd _ _ _ => d = none
  | _ => True

/-- An operation that comes up, with its effect. -/
theorem GD.effOp {C : Ctx} {h0 h : GH} {ops : Array Oper} {k : List Item} {ks : List Nat} {fuel : Nat} {listed : Array Bool} {s s' : S} {i : Nat} {o : Oper} {v : SV1} {e : Eff} (hi : ops[i]? = some o) (hg : o.guard = none)
    (he : opEval C.P s [] o.op = some (v, e)) (hsp : spares ks e = true) (hd : dstOk C.n o.dst = true) (hs' : s' = putS (applyEff s e) o.dst (.one v)) (hnv : noDst o.dst e)
    (hk : GD C h0 h ops k ks ⟨fuel, listed.setIfInBounds i true, s'⟩) : ∀ β w tmps L, Sim C.hE C.w0 C.inc C.n s h β w tmps → L = ks.map (fun x => (β x, w.heap[β x]?)) → (∀ x ∈ ks, ∃ b, bx x s.boxes = some b) → GLe h0 h →
      wpOp C.P ops (Qk C k) i (fun a' w' => Stays L h0 w' ∧ wpAnyH C.P .any ops (Qk C k) (Stays L h0) fuel (listed.setIfInBounds i true) a' w') ⟨tmps, []⟩ w := by
  intro β w tmps L hS hL hlive hle
  have hw : Region.wanted o (yielded ops (⟨tmps, []⟩ : Act).tmps) = true := by simp [Region.wanted, hg]
  have hok := opEval_ok hS GOk.nil he
  have hlive' : ∀ x ∈ ks, ∃ b, bx x s'.boxes = some b := fun x hx => by rw [hs', putS_boxes]; exact applyEff_live (hlive x hx)
  cases e with
  | no =>
    obtain ⟨u, h1, h2⟩ := hok
    refine wpOp_value hi hw (h2 w fun _ _ _ => rfl) ⟨by rw [hL]; exact Stays.of_sim hS hle ks, ?_⟩
    rw [act_put]
    exact hk β w (putT tmps o.dst u) L (by rw [hs']; exact hS.putD hd (sv := .one v) fun d _ => h1) hL hlive' hle
  | new T cs =>
    obtain ⟨arr, u, h1, h2, h3⟩ := hok
    have hS' := hS.new (T := T) h1
    have hL' : L = ks.map (fun x => ((fun k => if k = s.nb then w.heap.size else β k) x, (w.alloc (.cells arr T)).heap[(fun k => if k = s.nb then w.heap.size else β k) x]?)) := by
      rw [hL]
      refine List.map_congr_left fun x hx => ?_
      obtain ⟨b, hb⟩ := hlive x hx
      have hlt := hS.keys x b hb
      simp only [if_neg (Nat.ne_of_lt hlt)]
      rw [Below.heap_alloc w _ _ (hS.box x b hb).lt]
    refine wpOp_value hi hw h3 ⟨?_, ?_⟩
    · rw [hL']; exact Stays.of_sim hS' hle ks
    · rw [act_put]
      refine hk (fun k => if k = s.nb then w.heap.size else β k) _ _ L ?_ hL' hlive' hle
      rw [hs']
      exact hS'.putD hd (sv := .one v) (u := u) fun d _ => h2 (fun k => if k = s.nb then w.heap.size else β k) (by simp)
  | upd y T cs =>
    obtain ⟨b, cs0, arr, h1, h2, h3⟩ := hok
    have hS' := hS.upd h1 h2
    have hy : y ∉ ks := fun hm => by simp only [spares, memN_iff.2 hm] at hsp; cases hsp
    have hL' : L = ks.map (fun x => (β x, (w.setRow (β y) arr).heap[β x]?)) := by
      rw [hL]
      refine List.map_congr_left fun x hx => ?_
      obtain ⟨b', hb'⟩ := hlive x hx
      rw [setRow_other (hS.inj x y _ _ hb' h1 fun e => hy (e ▸ hx))]
    simp only [noDst] at hnv
    refine wpOp_skip hi hw h3 ⟨?_, ?_⟩
    · rw [hL']; exact Stays.of_sim hS' hle ks
    · rw [act_put]
      refine hk _ _ _ L ?_ hL' hlive' hle
      rw [hs', hnv]
      exact hS'

theorem GD.eff {C : Ctx} {h0 h : GH} {ops : Array Oper} {k : List Item} {ks : List Nat} {fuel : Nat} {listed : Array Bool} {s s' : S} {i : Nat} {o : Oper} {v : SV1} {e : Eff} (hi : ops[i]? = some o) (hr : Region.ready .any ops listed = [i]) (hg : o.guard = none)
    (he : opEval C.P s [] o.op = some (v, e)) (hsp : spares ks e = true) (hd : dstOk C.n o.dst = true) (hs' : s' = putS (applyEff s e) o.dst (.one v)) (hnv : noDst o.dst e)
    (hk : GD C h0 h ops k ks ⟨fuel, listed.setIfInBounds i true, s'⟩) : GD C h0 h ops k ks ⟨fuel + 1, listed, s⟩ :=
  GD.only hr (GD.effOp hi hg he hsp hd hs' hnv hk)

/-! ### The runner inside a region -/

def tryTake (P : Program) (n : Nat) (ops : Array Oper) (ks : List Nat) (d : DCfg) : List Nat → Option (Nat × SV)
  | [] => none
  | i :: is => match ops[i]? with
    | some o => match opSV P n (takeS ks d.s) ops o with
      | some sv => if Region.free .any ops d.listed i then some (i, sv) else tryTake P n ops ks d is
      | none => tryTake P n ops ks d is
    | none => none

def isUpd : Eff → Bool
  | .upd _ _ _ => true
  | _ => false

def stepD (P : Program) (n : Nat) (ops : Array Oper) (ks : List Nat) (d : DCfg) : Option DCfg :=
  match d.fuel with
  | 0 => none
  | fuel + 1 => match tryTake P n ops ks d (Region.ready .any ops d.listed) with
    | some (i, sv) => some ⟨fuel, d.listed.setIfInBounds i true, putS d.s ((ops[i]?).bind (·.dst)) sv⟩
    | none => match Region.ready .any ops d.listed with
      | [i] => match ops[i]? with
        | some o => match o.guard, opEval P d.s [] o.op with
          | none, some (v, e) => if spares ks e && dstOk n o.dst && (!(isUpd e) || o.dst.isNone) then some ⟨fuel, d.listed.setIfInBounds i true, putS (applyEff d.s e) o.dst (.one v)⟩ else none
          | _, _ => none
        | none => none
      | _ => none

def runD (P : Program) (n : Nat) (ops : Array Oper) (ks : List Nat) : Nat → DCfg → DCfg
  | 0, d => d
  | m + 1, d => match stepD P n ops ks d with
    | some d' => runD P n ops ks m d'
    | none => d

theorem tryTake_ok {P : Program} {n : Nat} {ops : Array Oper} {ks : List Nat} {d : DCfg} {i : Nat} {sv : SV} : ∀ (l : List Nat), tryTake P n ops ks d l = some (i, sv) → i ∈ l ∧ ∃ o, ops[i]? = some o ∧ opSV P n (takeS ks d.s) ops o = some sv ∧ Region.free .any ops d.listed i = true := by
  intro l
  induction l with
  | nil => intro h; simp [tryTake] at h
  | cons j l ih =>
    intro h
    simp only [tryTake] at h
    split at h
    · rename_i o ho
      split at h
      · rename_i sv' hsv
        split at h
        · rename_i hf
          simp only [Option.some.injEq, Prod.mk.injEq] at h
          obtain ⟨rfl, rfl⟩ := h
          exact ⟨by simp, o, ho, hsv, hf⟩
        · have := ih h; exact ⟨by simp [this.1], this.2⟩
      · have := ih h; exact ⟨by simp [this.1], this.2⟩
    · simp at h

theorem GD.of_stepD {C : Ctx} {h0 h : GH} {ops : Array Oper} {k : List Item} {ks : List Nat} {d d' : DCfg} (hns : Region.noSelect ops = true) (hs : stepD C.P C.n ops ks d = some d') (hk : GD C h0 h ops k ks d') : GD C h0 h ops k ks d := by
  obtain ⟨fuel, listed, s⟩ := d
  unfold stepD at hs
  simp only at hs
  split at hs
  · simp at hs
  · rename_i fuel
    split at hs
    · rename_i i sv ht
      simp only [Option.some.injEq] at hs; subst hs
      obtain ⟨h1, o, h2, h3, h4⟩ := tryTake_ok _ ht
      refine GD.take h2 hns h4 (by simpa using h1) h3 ?_
      rw [h2] at hk; exact hk
    · split at hs
      · rename_i i hr
        split at hs
        · rename_i o ho
          split at hs
          · rename_i v e hg he
            split at hs
            · rename_i hc
              simp only [Bool.and_eq_true, Bool.or_eq_true, Bool.not_eq_true'] at hc
              simp only [Option.some.injEq] at hs; subst hs
              refine GD.eff ho hr hg he hc.1.1 hc.1.2 rfl ?_ hk
              cases e with
              | upd a b c =>
                show o.dst = none
                rcases hc.2 with h5 | h5
                · simp [isUpd] at h5
                · simpa using h5
              | _ => trivial
            · simp at hs
          · simp at hs
        · simp at hs
      · simp at hs

theorem GD.run {C : Ctx} {h0 h : GH} {ops : Array Oper} {k : List Item} {ks : List Nat} (hns : Region.noSelect ops = true) : ∀ (m : Nat) {d : DCfg}, GD C h0 h ops k ks (runD C.P C.n ops ks m d) → GD C h0 h ops k ks d
  | 0, _, h' => h'
  | m + 1, d, h' => by
    unfold runD at h'
    cases hs : stepD C.P C.n ops ks d with
    | none => rw [hs] at h'; exact h'
    | some d' => rw [hs] at h'; exact GD.of_stepD hns hs (GD.run hns m h')

def drawAt (c : Cfg) : Option (Array Oper) :=
  match c.todo with
  | .code (.region _ ops true) :: _ => some ops
  | _ => none

def liveAll (ks : List Nat) (s : S) : Bool :=
  match ks with
  | [] => true
  | k :: l => (bx k s.boxes).isSome && liveAll l s

theorem liveAll_ok {ks : List Nat} {s : S} (h : liveAll ks s = true) : ∀ x ∈ ks, ∃ b, bx x s.boxes = some b := by
  induction ks with
  | nil => simp
  | cons k l ih =>
    simp only [liveAll, Bool.and_eq_true] at h
    intro x hx
    simp only [List.mem_cons] at hx
    rcases hx with rfl | hx
    · exact Option.isSome_iff_exists.1 h.1
    · exact ih h.2 x hx

def restOf (c : Cfg) : List Item := c.todo.tail
def opsOf (c : Cfg) : Array Oper := (drawAt c).getD #[]
def startD (c : Cfg) : DCfg := ⟨(opsOf c).size, Array.replicate (opsOf c).size false, c.s⟩

/-- A region whose order is open is begun; ks: the blocks that stay while it runs. -/
theorem G.draw {C : Ctx} {h : GH} {c : Cfg} (ks : List Nat) (hm : C.P.follows .mixedOrders = true) (hd : (drawAt c).isSome = true) (hl : liveAll ks c.s = true) (hk : GD C h h (opsOf c) (restOf c) ks (startD c)) : G C h c := by
  intro β w tmps hS
  obtain ⟨todo, s⟩ := c
  unfold drawAt at hd
  simp only at hd
  split at hd
  · rename_i id ops k
    have hops : opsOf ⟨.code (.region id ops true) :: k, s⟩ = ops := rfl
    have hrest : restOf ⟨.code (.region id ops true) :: k, s⟩ = k := rfl
    rw [hops, hrest] at hk
    refine Reach.wp (wp_mono (Q := Qk C k) ?_ (fun e a w h => by cases e <;> first | exact h | exact (h : False).elim))
    refine (wp_region_held (S := Stays (ks.map fun x => (β x, w.heap[β x]?)) h) hm ?_)
    have hS' : Sim C.hE C.w0 C.inc C.n s h β { w with drawn := w.drawn + 1 } tmps := hS.of_heap rfl rfl rfl rfl
    have := hk β { w with drawn := w.drawn + 1 } tmps (ks.map fun x => (β x, w.heap[β x]?)) hS' rfl (liveAll_ok hl) (GLe.refl h)
    simp only [startD, hops] at this
    exact this
  · simp at hd
end Go.Proofs.Ytkjahaoobdbffaa
