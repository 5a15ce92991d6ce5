/- The base of this seat's proofs, tenth part: a runner that also takes calls of functions whose answer is known. -/
import Derived.Test.YtkjahaoobdbffaaB9
namespace Go.Proofs.Ytkjahaoobdbffaa
open Go Go.RowKit

/-- What functions answer, as far as it is known: of what is known of memory and of the arguments. -/
abbrev Tab := S → FuncId → List SV1 → Option SV1

def TabOk (P : Program) (tab : Tab) : Prop :=
  ∀ (s : S) (f : FuncId) (svs : List SV1) (v : SV1), tab s f svs = some v → ∀ hE w0 inc n h β w tmps args, Sim hE w0 inc n s h β w tmps → SV1sOk s.nb β svs args →
    Calls P f args.toArray w fun e w' => ∃ u, e = .returned u ∧ SV1Ok s.nb β v u ∧ Below w.heap.size w w'

def tabNone : Tab := fun _ _ _ => none
theorem tabNone_ok (P : Program) : TabOk P tabNone := fun _ _ _ _ h => by cases h

def tabF (f0 : FuncId) (g : S → List SV1 → Option SV1) : Tab := fun s f svs => match Nat.beq f f0 with
  | true => g s svs
  | false => none

def tabOr (a b : Tab) : Tab := fun s f svs => match a s f svs with
  | some v => some v
  | none => b s f svs

theorem tabOr_ok {P : Program} {a b : Tab} (ha : TabOk P a) (hb : TabOk P b) : TabOk P (tabOr a b) := by
  intro s f svs v hv
  unfold tabOr at hv
  split at hv
  · rename_i u hu
    simp only [Option.some.injEq] at hv; subst hv
    exact ha s f svs _ hu
  · exact hb s f svs v hv

theorem tabF_ok {P : Program} {f0 : FuncId} {g : S → List SV1 → Option SV1}
    (hg : ∀ s svs v, g s svs = some v → ∀ hE w0 inc n h β w tmps args, Sim hE w0 inc n s h β w tmps → SV1sOk s.nb β svs args →
      Calls P f0 args.toArray w fun e w' => ∃ u, e = .returned u ∧ SV1Ok s.nb β v u ∧ Below w.heap.size w w') : TabOk P (tabF f0 g) := by
  intro s f svs v hv
  unfold tabF at hv
  split at hv
  · rename_i he
    have := Nat.eq_of_beq_eq_true he
    subst this
    exact hg s svs v hv
  · cases hv

/-- Of a function whose arguments and answer are plain values. -/
theorem tabF_plain {P : Program} {f0 : FuncId} {g : List SV1 → Option SV1}
    (hg : ∀ svs v, g svs = some v → ∃ vals u, svVals svs = some vals ∧ (∀ N β, SV1Ok N β v u) ∧ ∀ w, Calls P f0 vals.toArray w fun e w' => e = .returned u ∧ Below w.heap.size w w') : TabOk P (tabF f0 fun _ svs => g svs) :=
  tabF_ok fun s svs v hv hE w0 inc n h β w tmps args hS hargs => by
    obtain ⟨vals, u, h1, h2, h3⟩ := hg svs v hv
    rw [svVals_ok h1 hargs]
    exact (h3 w).mono fun e w' ⟨he, hb⟩ => ⟨u, he, h2 _ _, hb⟩

def tabStep (P : Program) (n : Nat) (tab : Tab) (s : S) (cv : CallView) : Option SV :=
  match tab s cv.f cv.args with
  | some v => if enters P cv.f then (match cv.guard with
    | none => if dstOk n cv.dst then some (.one v) else none
    | some (tg, want) => match cv.dst with
      | some d => if Nat.blt d n && Nat.blt tg n && !(Nat.beq tg d) then some (.gd tg want v) else none
      | none => none) else none
  | none => none

def stepCT (P : Program) (n : Nat) (tab : Tab) (c : Cfg) : Option Cfg :=
  match stepC P n c with
  | some c' => some c'
  | none => match callView c with
    | some cv => (tabStep P n tab c.s cv).map fun sv => afterOp c sv
    | none => none

theorem callView_shape {c : Cfg} {cv : CallView} (hc : callView c = some cv) : ∃ ops i rest k o, c.todo = .inRegion ops (i :: rest) :: k ∧ ops[i]? = some o ∧ callOf c.s ops o = some cv := by
  unfold callView at hc
  split at hc
  · rename_i ops i rest k hk
    split at hc
    · rename_i o ho
      exact ⟨ops, i, rest, k, o, hk, ho, hc⟩
    · simp at hc
  · simp at hc

/-- A call whose answer is known: it runs so if it is wanted. -/
theorem tab_call {P : Program} {tab : Tab} (ht : TabOk P tab) {hE : GH} {w0 : World} {inc : List Nat} {n : Nat} {s : S} {h : GH} {β : Nat → Nat} {w : World} {tmps : Array Value} (hS : Sim hE w0 inc n s h β w tmps) {ops : Array Oper} {o : Oper} {cv : CallView}
    (hc : callOf s ops o = some cv) {sv : SV} (hs : tabStep P n tab s cv = some sv) :
    dstOk n o.dst = true ∧ ((Region.wanted o (yielded ops tmps) = true ∧ ∃ f args, (execOp (evT tmps) o).run P w = .ok (.enter f args) w ∧
        Calls P f args w fun e w' => ∃ u, e = .returned u ∧ Below w.heap.size w w' ∧ ∀ d, o.dst = some d → SVOk s.nb β (tmps.setIfInBounds d u) sv u) ∨
      (Region.wanted o (yielded ops tmps) = false ∧ ∀ d, o.dst = some d → SVOk s.nb β (tmps.setIfInBounds d undef) sv undef)) := by
  unfold tabStep at hs
  split at hs
  · rename_i v hv
    split at hs
    · rename_i hen
      unfold callOf at hc
      split at hc
      · rename_i x args types hop
        split at hc
        · rename_i hg
          split at hc
          · rename_i f a b vs hx hav
            simp only [Option.some.injEq] at hc; subst hc
            simp only at hs hv hen
            split at hs
            · rename_i hd
              simp only [Option.some.injEq] at hs; subst hs
              obtain ⟨l, hl, hrun⟩ := run_callS hS GOk.nil hop hx hav hen
              refine ⟨hd, .inl ⟨by simp [Region.wanted, hg], f, l.toArray, hrun, (ht _ _ _ _ hv _ _ _ _ _ _ _ _ _ hS hl).mono ?_⟩⟩
              rintro e w' ⟨u, rfl, h1, h2⟩
              exact ⟨u, rfl, h2, fun d _ => h1⟩
            · simp at hs
          · simp at hc
        · rename_i j want hg
          split at hc
          · rename_i tg hj
            split at hc
            · rename_i f a b vs hx hav
              simp only [Option.some.injEq] at hc; subst hc
              simp only at hs hv hen
              split at hs
              · rename_i d hd
                split at hs
                · rename_i hok
                  simp only [Bool.and_eq_true, Bool.not_eq_true'] at hok
                  simp only [Option.some.injEq] at hs; subst hs
                  have htg : tg < n := Nat.le_of_ble_eq_true hok.1.2
                  have hne : d ≠ tg := fun e => by have := hok.2; rw [e, Nat.beq_refl] at this; cases this
                  have hwi := wanted_of (tmps := tmps) hg hj (by rw [hS.size]; exact htg)
                  refine ⟨by rw [hd]; exact hok.1.1, ?_⟩
                  by_cases hwt : Region.wanted o (yielded ops tmps) = true
                  · have htrue := hwi.1 hwt
                    obtain ⟨l, hl, hrun⟩ := run_callS hS (chain_ok hS 4 tg want htrue) hop hx hav hen
                    refine .inl ⟨hwt, f, l.toArray, hrun, (ht _ _ _ _ hv _ _ _ _ _ _ _ _ _ hS hl).mono ?_⟩
                    rintro e w' ⟨u, rfl, h1, h2⟩
                    refine ⟨u, rfl, h2, fun d' hd' => ?_⟩
                    rw [hd] at hd'; injection hd' with hd'; subst hd'
                    exact .inl ⟨by rw [getD_set_other hne]; exact htrue, h1⟩
                  · have hfalse : tmps.getD tg undef ≠ .bool want := fun e => hwt (hwi.2 e)
                    refine .inr ⟨by simpa using hwt, fun d' hd' => ?_⟩
                    rw [hd] at hd'; injection hd' with hd'; subst hd'
                    exact .inr ⟨by rw [getD_set_other hne]; exact hfalse, rfl⟩
                · simp at hs
              · simp at hs
            · simp at hc
          · simp at hc
      · simp at hc
    · simp at hs
  · simp at hs

theorem G.of_stepCT {C : Ctx} {h : GH} {tab : Tab} (ht : TabOk C.P tab) {c c' : Cfg} (hs : stepCT C.P C.n tab c = some c') (h' : G C h c') : G C h c := by
  unfold stepCT at hs
  split at hs
  · rename_i c'' hc
    simp only [Option.some.injEq] at hs; subst hs
    exact G.of_stepC hc h'
  · split at hs
    · rename_i cv hcv
      obtain ⟨sv, h1, rfl⟩ := map_some hs
      obtain ⟨ops, i, rest, k, o, hk, ho, hco⟩ := callView_shape hcv
      intro β w tmps hS
      obtain ⟨todo, s⟩ := c
      simp only at hk hS h1 hco; subst hk
      obtain ⟨hd, hcase⟩ := tab_call ht hS hco h1
      have hk' := h' β
      simp only [afterOp, ho, Option.bind_some] at hk'
      rcases hcase with ⟨hwt, f, args, hrun, hcall⟩ | ⟨hwt, hu⟩
      · refine Reach.call ho hwt hrun (hcall.mono ?_)
        rintro e w' ⟨u, rfl, hb, hu⟩
        refine ⟨u, rfl, ?_⟩
        rw [put_tmps]
        exact hk' w' _ ((hS.grow (.of_below hS.sub hb)).putD hd hu)
      · refine Reach.unwanted ho hwt ?_
        rw [put_tmps]
        exact hk' w _ (hS.putD hd hu)
    · simp at hs

/-! ### Inside regions of open order -/

def stepDT (P : Program) (n : Nat) (tab : Tab) (ops : Array Oper) (ks : List Nat) (d : DCfg) : Option DCfg :=
  match stepD P n ops ks d with
  | some d' => some d'
  | none => match d.fuel with
    | 0 => none
    | fuel + 1 => match Region.ready .any ops d.listed with
      | [i] => match ops[i]? with
        | some o => match callOf d.s ops o with
          | some cv => (tabStep P n tab d.s cv).map fun sv => ⟨fuel, d.listed.setIfInBounds i true, putS d.s o.dst sv⟩
          | none => none
        | none => none
      | _ => none

def runDT (P : Program) (n : Nat) (tab : Tab) (ops : Array Oper) (ks : List Nat) : Nat → DCfg → DCfg
  | 0, d => d
  | m + 1, d => match stepDT P n tab ops ks d with
    | some d' => runDT P n tab ops ks m d'
    | none => d

theorem GD.of_stepDT {C : Ctx} {h0 h : GH} {tab : Tab} (ht : TabOk C.P tab) {ops : Array Oper} {k : List Item} {ks : List Nat} {d d' : DCfg} (hns : Region.noSelect ops = true) (hs : stepDT C.P C.n tab ops ks d = some d') (hk : GD C h0 h ops k ks d') : GD C h0 h ops k ks d := by
  unfold stepDT at hs
  split at hs
  · rename_i d'' hd
    simp only [Option.some.injEq] at hs; subst hs
    exact GD.of_stepD hns hd hk
  · obtain ⟨fuel, listed, s⟩ := d
    simp only at hs
    split at hs
    · simp at hs
    · rename_i fuel _
      split at hs
      · rename_i i hr
        split at hs
        · rename_i o ho
          split at hs
          · rename_i cv hcv
            obtain ⟨sv, h1, rfl⟩ := map_some hs
            refine GD.only hr fun β w tmps L hS hL hlive hle => ?_
            obtain ⟨hd, hcase⟩ := tab_call ht hS hcv h1
            rcases hcase with ⟨hwt, f, args, hrun, hcall⟩ | ⟨hwt, hu⟩
            · refine wpOp_call ho hwt hrun (hcall.mono ?_)
              rintro e w' ⟨u, rfl, hb, hu⟩
              refine ⟨u, rfl, ?_⟩
              have hg' := Grow.of_below hS.sub hb
              have hL' : L = ks.map (fun x => (β x, w'.heap[β x]?)) := by
                rw [hL]
                refine List.map_congr_left fun x hx => ?_
                obtain ⟨b, hb'⟩ := hlive x hx
                rw [hb.block _ (hS.box x b hb').lt]
              refine ⟨by rw [hL']; exact Stays.of_sim (hS.grow hg') hle ks, ?_⟩
              rw [act_put]
              exact hk β w' _ L ((hS.grow hg').putD hd hu) hL' (fun x hx => by simp only [putS_boxes]; exact hlive x hx) hle
            · refine wpOp_unwanted ho hwt ⟨by rw [hL]; exact Stays.of_sim hS hle ks, ?_⟩
              rw [act_put]
              exact hk β w _ L (hS.putD hd hu) hL (fun x hx => by simp only [putS_boxes]; exact hlive x hx) hle
          · simp at hs
        · simp at hs
      · simp at hs

theorem GD.runT {C : Ctx} {h0 h : GH} {tab : Tab} (ht : TabOk C.P tab) {ops : Array Oper} {k : List Item} {ks : List Nat} (hns : Region.noSelect ops = true) : ∀ (m : Nat) {d : DCfg}, GD C h0 h ops k ks (runDT C.P C.n tab ops ks m d) → GD C h0 h ops k ks d
  | 0, _, h' => h'
  | m + 1, d, h' => by
    unfold runDT at h'
    cases hs : stepDT C.P C.n tab ops ks d with
    | none => rw [hs] at h'; exact h'
    | some d' => rw [hs] at h'; exact GD.of_stepDT ht hns hs (GD.runT ht hns m h')

def stepET (P : Program) (n : Nat) (tab : Tab) (c : Cfg) : Option Cfg :=
  match stepCT P n tab c with
  | some c' => some c'
  | none => match drawAt c with
    | some ops =>
      let d := runDT P n tab ops (liveKeys c.s.boxes) 100 (startD c)
      if doneD ops d && Region.noSelect ops then some ⟨restOf c, d.s⟩ else none
    | none => none

def runT (P : Program) (n : Nat) (tab : Tab) : Nat → Cfg → Cfg
  | 0, c => c
  | m + 1, c => match stepET P n tab c with
    | some c' => runT P n tab m c'
    | none => c

theorem G.of_stepET {C : Ctx} {h : GH} {tab : Tab} (ht : TabOk C.P tab) (hm : C.P.follows .mixedOrders = true) {c c' : Cfg} (hs : stepET C.P C.n tab c = some c') (h' : G C h c') : G C h c := by
  unfold stepET at hs
  split at hs
  · rename_i c'' hc
    simp only [Option.some.injEq] at hs; subst hs
    exact G.of_stepCT ht hc h'
  · split at hs
    · rename_i ops hd
      simp only at hs
      split at hs
      · rename_i hf
        simp only [Bool.and_eq_true] at hf
        simp only [Option.some.injEq] at hs; subst hs
        refine G.draw (liveKeys c.s.boxes) hm (by rw [hd]; rfl) (liveAll_of (liveKeys_ok _)) ?_
        have hops : opsOf c = ops := by simp [opsOf, hd]
        rw [hops]
        exact GD.runT ht hf.2 100 (GD.fin hf.1 h')
      · simp at hs
    · simp at hs

/-- **The runner may be taken**: calls whose answers are known, too. -/
theorem G.runT {C : Ctx} {h : GH} {tab : Tab} (ht : TabOk C.P tab) (hm : C.P.follows .mixedOrders = true) : ∀ (m : Nat) {c : Cfg}, G C h (runT C.P C.n tab m c) → G C h c
  | 0, _, h' => h'
  | m + 1, c, h' => by
    unfold Ytkjahaoobdbffaa.runT at h'
    cases hs : stepET C.P C.n tab c with
    | none => rw [hs] at h'; exact h'
    | some c' => rw [hs] at h'; exact G.of_stepET ht hm hs (G.runT ht hm m h')

end Go.Proofs.Ytkjahaoobdbffaa
