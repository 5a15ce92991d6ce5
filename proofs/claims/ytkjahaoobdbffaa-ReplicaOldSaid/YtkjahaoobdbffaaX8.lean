/- Merged: K27 B25 K28 K29 K30 B26 P2 B27 K31 K32 P3 B28 K33 K34 -/
import Derived.Maps.RangeRun
import Derived.Test.YtkjahaoobdbffaaX7

/- The replica in memory: the beginning of a change; taking a log over. -/

namespace Go.Proofs.Ytkjahaoobdbffaa
open Go Go.RowKit
attribute [local irreducible] G GD GDop

theorem upd_skip {P : Program} {T : TypeId} {m k v : Value} {w w' : World} (h : (Instr.mapUpdate T m k v).run P w = .ok () w') : (unitS (Instr.mapUpdate T m k v)).run P w = .ok .skip w' := by
  unfold unitS
  rw [Sem.run_bind, h]
  rfl

theorem ents_nil {h : GH} : EntsR h nilS [] := SlR.nil
theorem logOk_nil : LogOk [] := ⟨by simp, by simp⟩

theorem f102_ok {A : Adr} {h : GH} {r : Rep} {v : Int} (hn : r.n0 ≤ 1000) (ho : r.out.length ≤ 900000) : RepCall A 102 [rptr A, .int .i64 v] h r (r.begin v) Q0 := by
  refine RepCall.of [.atom (.int .i64 v)] Try.func102 (c := bodyOf Try.f102) (by kernel_rfl) Try.ntmps102 (fun _ _ => ⟨rfl, trivial⟩) (by simp) fun w x hR => ?_
  refine G.runE tm 100 ?_
  refine G.callRep (f := 125) (svs := [.atom (.int .i64 v)]) (d := some 6) rfl (by kernel_rfl) (by kernel_rfl) (by kernel_rfl) A r (r.enter v) x ⟨by kernel_rfl, by kernel_rfl, by kernel_rfl, by kernel_rfl, by kernel_rfl⟩ [.int .i64 v] (by kernel_rfl) Q0 f125_ok hR ?_
  rintro h1 x1 v1 hle1 hR1 rfl
  refine ⟨.tup [], unit_ok, ?_⟩
  refine G.runE tm 100 ?_
  refine G.draw [] tm (by kernel_rfl) (by kernel_rfl) ?_
  refine GD.autoT tabR_ok (by kernel_rfl) 8 (by kernel_rfl) (by kernel_rfl) ?_
  obtain ⟨os, hs, hrs⟩ := hR1.starts.update (P := Try.prog) (b := A.sb) Try.underlying132 Try.underlying3 r.id (v := .bool true) (x := true) rfl
  refine GD.one 9 (by kernel_rfl) (GDop.semObj (m := unitS (Instr.mapUpdate 132 (.map (some A.sb)) (.int .i64 r.id) (.bool true))) (d := none) (by kernel_rfl) (by kernel_rfl) (k := 2) (b := A.sb) (o := x1.s) (o' := os) (by kernel_rfl) (by kernel_rfl) undef (.atom .any) (fun _ _ => trivial) ⟨.skip, .inl ⟨rfl, rfl⟩, fun w hw => upd_skip (hrs w hw)⟩ ?_)
  refine GD.run (by kernel_rfl) 50 ?_
  refine GD.fin (by kernel_rfl) ?_
  refine G.runE tm 100 ?_
  refine G.callRep (f := 101) (svs := [.agg (msgC ⟨4, 0, 0, 0, 0, 0, 0, []⟩ nilS)]) (d := some 18) rfl (by kernel_rfl) (by kernel_rfl) (by kernel_rfl) A { r.enter v with starts := setM (r.enter v).starts r.id true } (r.begin v) ⟨x1.lv, x1.ov, x1.oxs, x1.a, os, x1.c⟩ ⟨by kernel_rfl, by kernel_rfl, by kernel_rfl, by kernel_rfl, by kernel_rfl⟩ [msgV ⟨4, 0, 0, 0, 0, 0, 0, []⟩ nilS] (by kernel_rfl) Q0 (f101_ok ents_nil logOk_nil hn ho) ⟨hR1.log, hR1.out, hR1.ov, hR1.acks, hs, hR1.changes⟩ ?_
  rintro h2 x2 v2 hle2 hR2 rfl
  refine ⟨.tup [], unit_ok, ?_⟩
  refine G.runE tm 100 ?_
  exact G.retRep Try.func102 Try.results102 unitV (by kernel_rfl) (r.begin v) x2 (by kernel_rfl) (by kernel_rfl) rfl hR2 rfl

def imin (a b : Int) : Int := if b < a then b else a
def imax (a b : Int) : Int := if b > a then b else a
theorem imin_eq (a b : Int) : imin a b = min a b := by unfold imin; split <;> omega
theorem imax_eq (a b : Int) : imax a b = max a b := by unfold imax; split <;> omega
theorem RepCall.to {A : Adr} {f : FuncId} {args : List Value} {h : GH} {r r1 r' : Rep} {Q : GH → Value → Prop} (hc : RepCall A f args h r r1 Q) (e : r1 = r') : RepCall A f args h r r' Q := e ▸ hc

theorem fits_eq {r : Rep} {k : Nat} (hk : r.commit = (k : Int)) (l : List Ent) : r.fits l = (decide (k ≤ l.length) && decide (l.take k = r.log.take k)) := by
  unfold Rep.fits
  rw [hk]
  simp

theorem f129_rep {A : Adr} {r : Rep} {x : RMem} {h : GH} {k : Nat} {u : Value} {l : List Ent} (hR : RepR h r x) (hk : r.commit = (k : Int)) (hkl : k ≤ r.log.length) (hu : EntsR h u l) :
    ∀ rb h' w, GLe h h' → RoR h' rb (repC A r x) → Sub h' w → Calls Try.prog 129 (rdp rb :: [u]).toArray w fun e w' => e = .returned (.bool (r.fits l)) ∧ Below w.heap.size w w' := fun rb h' w hle hr hs => by
  rw [fits_eq hk]
  exact f129_ok hr (v := x.lv) (n := r.log.length) (by simp [repC, hk]) rfl (hR.log.mono hle) (hu.mono hle) hkl hs

theorem f82_ok {A : Adr} {h : GH} {r : Rep} {m : Msg} {p : Value} {k : Nat} (hp : EntsR h p m.log) (hl : LogOk m.log) (hk : r.commit = (k : Int)) (hkl : k ≤ r.log.length) (ho : r.out.length ≤ 900000) : RepCall A 82 [rptr A, msgV m p] h r (r.take m) Q0 := by
  refine RepCall.of [.agg (msgC m p)] Try.func82 (c := bodyOf Try.f82) (by kernel_rfl) Try.ntmps82 (fun _ _ => ⟨msgC_ok hp _ _, trivial⟩) (by simp) fun w x hR => ?_
  refine G.runE tm 100 ?_
  refine G.callRo (f := 129) (svs := [.atom (.sl p m.log.length)]) (d := some 7) (k := 0) (by kernel_rfl) (bi := some A.rb) (T := 135) (cs := repC A r x) (by kernel_rfl) [p] (.bool (r.fits m.log)) (by kernel_rfl) (by kernel_rfl) (by kernel_rfl) (f129_rep hR hk hkl hp) ?_
  refine G.runE tm 100 ?_
  refine G.cond (!(r.fits m.log)) (by kernel_rfl) (fun hc => ?_) (fun hc => ?_)
  · refine G.runE tm 100 ?_
    exact G.retRep Try.func82 Try.results82 unitV (by kernel_rfl) r x (by kernel_rfl) (by kernel_rfl) (by simp only [Bool.not_eq_true'] at hc; simp [Rep.take, hc]) hR rfl
  simp only [Bool.not_eq_false'] at hc
  refine G.runE tm 100 ?_
  refine G.draw [] tm (by kernel_rfl) (by kernel_rfl) ?_
  refine GD.callJ tabR_ok (by kernel_rfl) 9 8 (f := 77) (svs := [.atom (.sl p m.log.length)]) (dst := some 18) [p] (by kernel_rfl) (by kernel_rfl) (by kernel_rfl) (by kernel_rfl) (by kernel_rfl) (fun h' v => EntsR h' v m.log) (fun w hw => f77_ok hp hl.2 (by have := hl.1; omega) hw) fun h1 p1 hp1 hle1 => ⟨.one (.atom (.sl p1 m.log.length)), fun N β _ => SlR.sv hp1 N β, by kernel_rfl, by kernel_rfl, ?_⟩
  refine GD.fin (by kernel_rfl) ?_
  refine G.runX tabR_ok tm 0 100 (by kernel_rfl) ?_
  refine G.callRep (f := 76) (svs := []) (d := some 47) rfl (by kernel_rfl) (by kernel_rfl) (by kernel_rfl) A { r with view := m.view, normal := m.view, log := m.log, commit := imax r.commit (imin m.commit m.log.length), changing := false } (r.takeOver m) ⟨p1, x.ov, x.oxs, x.a, x.s, x.c⟩ ⟨by kernel_rfl, by kernel_rfl, by kernel_rfl, by kernel_rfl, by kernel_rfl⟩ [] (by kernel_rfl) Q0 (f76_ok.to (by simp [Rep.takeOver, imax_eq, imin_eq])) ⟨hp1, hR.out.mono fun _ _ hh => hh.mono hle1, hR.ov, hR.acks, hR.starts, hR.changes.mono fun _ _ hh => hh.mono hle1⟩ ?_
  rintro h2 x2 v2 hle2 hR2 rfl
  refine ⟨.tup [], unit_ok, ?_⟩
  refine G.runX tabR_ok tm 0 100 (by kernel_rfl) ?_
  refine G.callRep (f := 83) (svs := [.atom (.int .i64 (r.primary m.view)), .agg (msgC ⟨2, 0, 0, 0, m.log.length, 0, 0, []⟩ nilS)]) (d := some 56) rfl (by kernel_rfl) (by kernel_rfl) (by kernel_rfl) A (r.takeOver m) (r.take m) x2 ⟨by kernel_rfl, by kernel_rfl, by kernel_rfl, by kernel_rfl, by kernel_rfl⟩ [.int .i64 (r.primary m.view), msgV ⟨2, 0, 0, 0, m.log.length, 0, 0, []⟩ nilS] (by kernel_rfl) Q0
    (by have := f83_ok (A := A) (h := h2) (r := r.takeOver m) (to := r.primary m.view) (m := ⟨2, 0, 0, 0, m.log.length, 0, 0, []⟩) ents_nil logOk_nil (by simp only [Rep.takeOver, Rep.forget]; omega); simpa only [Rep.take, hc, if_true] using this) hR2 ?_
  rintro h3 x3 v3 hle3 hR3 rfl
  refine ⟨.tup [], unit_ok, ?_⟩
  refine G.runE tm 100 ?_
  exact G.retRep Try.func82 Try.results82 unitV (by kernel_rfl) (r.take m) x3 (by kernel_rfl) (by kernel_rfl) rfl hR3 rfl
end Go.Proofs.Ytkjahaoobdbffaa

/- The base of this seat's proofs, twenty-fifth part: an object read, the answer a tuple. -/
namespace Go.Proofs.Ytkjahaoobdbffaa
open Go Go.RowKit

theorem semOf_none {s : S} {ops : Array Oper} {o : Oper} {m : Sem Next} {d : Option Nat} (h : semOf s ops o = some ⟨m, d, none⟩) : o.guard = none := by
  unfold semOf at h
  split at h
  · simp at h
  · split at h
    · assumption
    · split at h
      · split at h
        · simp at h
        · simp at h
      · simp at h

theorem G.semRdT {C : Ctx} {h : GH} {c : Cfg} {m : Sem Next} {d : Option Nat} (hv : semAt c = some ⟨m, d, none⟩) (hok : gOk C.n d none = true) {k b : Nat} {o : Obj} (hb : bx k c.s.boxes = some ⟨some b, .obj o⟩) (u : Value) (sv : SV) (hsv : ∀ N β tmps, SVOk N β tmps sv u)
    (hrun : ∀ w, w.heap[b]? = some o → m.run C.P w = .ok (.value u) w) (hk : G C h (afterOp c sv)) : G C h c := by
  intro β w tmps hS
  obtain ⟨todo, s⟩ := c
  unfold semAt at hv
  simp only at hv hS hb
  split at hv
  · rename_i ops i rest k'
    split at hv
    · rename_i o1 ho
      have hbk : w.heap[b]? = some o := by have h1 := hS.box _ _ hb; rw [(hS.fresh _ _ hb).1] at h1; exact h1
      obtain ⟨hd, hdo, hcase⟩ := semOf_ok (P := C.P) hS hv hok u (.atom .any) (fun _ _ => trivial) _ (says_of hrun)
      have hk' := hk β w
      simp only [afterOp, ho, Option.bind_some] at hk'
      rw [hd] at hdo
      rcases hcase with ⟨⟨hwt, hr⟩, hu⟩ | ⟨hwt, hu⟩
      · refine Reach.value ho hwt (hr w hbk) ?_
        rw [put_tmps]
        exact hk' _ (hS.putD hdo fun d hd => hsv _ _ _)
      · simp [Region.wanted, semOf_none hv] at hwt
    · simp at hv
  · simp at hv
end Go.Proofs.Ytkjahaoobdbffaa

/- The replica in memory: deciding on a log. -/
namespace Go.Proofs.Ytkjahaoobdbffaa
open Go Go.RowKit
attribute [local irreducible] G GD GDop

theorem zero45 : ∃ i, Try.prog.info? 45 = some i ∧ i.zero = some (msgV ⟨0, 0, 0, 0, 0, 0, 0, []⟩ nilS) := by
  have h : ((Try.prog.info? 45).bind fun i => i.zero) = some (msgV ⟨0, 0, 0, 0, 0, 0, 0, []⟩ nilS) := by kernel_rfl
  cases hi : Try.prog.info? 45 with
  | none => rw [hi] at h; simp at h
  | some i => rw [hi] at h; exact ⟨i, rfl, h⟩

def mayDec (r : Rep) : Bool := ((!r.changing || !(r.view.tmod (Int.ofNat (r.n0 + 1)) == r.id)) || decide (IntKind.i64.wrap ((r.changes.length : Int) + 1) < IntKind.i64.wrap (IntKind.i64.wrap ((Int.ofNat (r.n0 + 1)).tdiv 2) + 1)))

theorem half_wrap {n0 : Nat} (hn : n0 ≤ 1000) : IntKind.i64.wrap (IntKind.i64.wrap ((Int.ofNat (n0 + 1)).tdiv 2) + 1) = (Int.ofNat (n0 + 1)).tdiv 2 + 1 := by
  have h : (Int.ofNat (n0 + 1)).tdiv 2 = (((n0 + 1) / 2 : Nat) : Int) := rfl
  rw [h, IntWalk.i64_in (((n0 + 1) / 2 : Nat) : Int) (by omega), IntWalk.i64_in _ (by omega)]

theorem mayDec_eq {r : Rep} (hn : r.n0 ≤ 1000) (hc : r.changes.length ≤ 1000000) : mayDec r = !r.mayDecide := by
  unfold mayDec Rep.mayDecide Rep.primary Rep.half Rep.n
  rw [half_wrap hn, IntWalk.i64_in _ (by omega), Bool.not_not]
  congr 2
  cases h : r.view.tmod (Int.ofNat (r.n0 + 1)) == r.id <;> simp_all

theorem pair_tup {m : Msg} {h : GH} {p : Value} (hp : EntsR h p m.log) (b : Bool) : ∀ N β tmps, SVOk N β tmps (.tup [.agg (msgC m p), .atom (.bool b)]) (.tuple #[msgV m p, .bool b]) :=
  fun N β _ => ⟨_, rfl, msgC_ok hp N β, rfl, trivial⟩

theorem getM_mem {α : Type} {l : List (Int × α)} {k : Int} {x : α} (h : getM l k = some x) : (k, x) ∈ l := by
  unfold getM at h
  obtain ⟨q, h1, rfl⟩ := map_some h
  have h2 := List.find?_some h1
  simp only [beq_iff_eq] at h2
  subst h2
  exact List.mem_of_find?_eq_some h1

set_option maxHeartbeats 4000000 in
theorem f128_ok {A : Adr} {h : GH} {r : Rep} {k : Nat} (hk : r.commit = (k : Int)) (hkl : k ≤ r.log.length) (hn : r.n0 ≤ 1000) (ho : r.out.length ≤ 900000) (hcl : r.changes.length ≤ 1000000) (hL : LogOk r.log) (hC : ∀ q ∈ r.changes, LogOk q.2.log) : RepCall A 128 [rptr A] h r r.decide_ Q0 := by
  refine RepCall.of [] Try.func128 (c := bodyOf Try.f128) (by kernel_rfl) Try.ntmps128 (fun _ _ => trivial) (by simp) fun w x hR => ?_
  refine G.runE tm 100 ?_
  refine G.draw [] tm (by kernel_rfl) (by kernel_rfl) ?_
  refine GD.autoT tabR_ok (by kernel_rfl) 8 (by kernel_rfl) (by kernel_rfl) ?_
  refine GD.one 25 (by kernel_rfl) (GDop.semRd (m := builtin .len #[133] 3 #[false] #[.map (some A.cb)]) (dst := some 33) (g := some (28, false)) (by kernel_rfl) (by kernel_rfl) (k := 3) (b := A.cb) (o := x.c) (by kernel_rfl) (.int .i64 r.changes.length) (.atom (.int .i64 r.changes.length)) (fun _ _ => rfl) (says_of fun w hw => hR.changes.len Try.underlying133 w hw) ?_)
  refine GD.runT tabR_ok (by kernel_rfl) 50 ?_
  refine GD.fin (by kernel_rfl) ?_
  refine G.runE tm 100 ?_
  refine G.cond (mayDec r) (by kernel_rfl) (fun hc => ?_) (fun hc => ?_)
  · rw [mayDec_eq hn hcl] at hc
    refine G.runE tm 100 ?_
    exact G.retRep Try.func128 Try.results128 unitV (by kernel_rfl) r x (by kernel_rfl) (by kernel_rfl) (by simp only [Bool.not_eq_true'] at hc; simp [Rep.decide_, hc]) hR rfl
  rw [mayDec_eq hn hcl] at hc
  simp only [Bool.not_eq_false'] at hc
  refine G.runE tm 100 ?_
  refine G.loop (α := Nat × Rep.Pick × Value)
    (fun y => ⟨[(0, .one (.atom (.ptr 0 0))), (2, .one (.atom (.int .i64 y.2.1.normal))), (3, .one (.atom (.sl y.2.2 y.2.1.log.length))), (4, .one (.atom (.int .i64 y.2.1.done))), (58, .one (.atom (.int .i64 (Int.ofNat (r.n0 + 1))))), (59, .one (.atom (.int .i64 (Int.ofNat y.1))))], repBx A r x, 4, repOw r x⟩)
    (fun y g => GLe h g ∧ y.1 ≤ r.n0 + 1 ∧ y.2.1 = r.pickN y.1 ∧ LogOk y.2.1.log ∧ EntsR g y.2.2 y.2.1.log) (fun y => r.n0 + 1 - y.1) (0, ⟨r.normal, r.log, r.commit⟩, x.lv) [0, 2, 3, 4, 58, 59] [0, 1, 2, 3] 4 [0] (by kernel_rfl) (by kernel_rfl) (by kernel_rfl) ⟨GLe.refl _, Nat.zero_le _, rfl, hL, hR.log⟩ ?_
  rintro ⟨i, q, v⟩ g ⟨hle, hi, hq, hlq, hv⟩ IH
  simp only at hi hq hlq hv
  have hRg := hR.mono hle
  refine G.runE tm 100 ?_
  refine G.cond (decide (Int.ofNat i < Int.ofNat (r.n0 + 1))) (by kernel_rfl) (fun hlt => ?_) (fun hlt => ?_)
  · have hlt : i < r.n0 + 1 := by simp only [decide_eq_true_eq, Int.ofNat_eq_natCast] at hlt; omega
    refine G.runE tm 100 ?_
    have hstep : r.pickN (i + 1) = r.pick1 q i := by rw [hq]; rfl
    rcases hRg.changes.lookup (P := Try.prog) (b := A.cb) Try.underlying133 Try.underlying3 zero45 (Int.ofNat i) true with ⟨hno, hrun⟩ | ⟨m, u, hm, ⟨p, rfl, hp⟩, hrun⟩
    · refine G.semRdT (m := valS (Instr.lookup 133 (.map (some A.cb)) (.int .i64 (Int.ofNat i)) true)) (d := some 68) (by kernel_rfl) (by kernel_rfl) (k := 3) (b := A.cb) (o := x.c) (by kernel_rfl) (.tuple #[msgV ⟨0, 0, 0, 0, 0, 0, 0, []⟩ nilS, .bool false]) (.tup [.agg (msgC ⟨0, 0, 0, 0, 0, 0, 0, []⟩ nilS), .atom (.bool false)]) (pair_tup (h := g) ents_nil false) (fun w hw => run_valS (hrun w hw)) ?_
      refine G.runE tm 100 ?_
      refine G.callGRo (f := 129) (svs := [.atom (.sl nilS 0)]) (d := 77) (tg := 73) (want := false) (k := 0) (by kernel_rfl) (bi := some A.rb) (T := 135) (cs := repC A r x) (by kernel_rfl) [nilS] (.bool (r.fits [])) (by kernel_rfl) (by kernel_rfl) (by kernel_rfl) (says_of (f129_rep hRg hk hkl ents_nil)) ?_
      refine G.runE tm 100 ?_
      refine G.cond true (by kernel_rfl) (fun _ => ?_) (fun hc => by cases hc)
      refine G.runE tm 100 ?_
      refine G.reint (k := .i64) 59 (by kernel_rfl) (wrap_succ hlt (by omega)) ?_
      exact G.back (by kernel_rfl) [0, 2, 3, 4, 58, 59] [0, 1, 2, 3] 4 [0] (by kernel_rfl) (by kernel_rfl) (IH (i + 1, q, v) _ ⟨hle, hlt, by rw [hstep]; unfold Rep.pick1; rw [show getM r.changes (i : Int) = none from hno], hlq, hv⟩ (by simp only; omega))
    · refine G.semRdT (m := valS (Instr.lookup 133 (.map (some A.cb)) (.int .i64 (Int.ofNat i)) true)) (d := some 68) (by kernel_rfl) (by kernel_rfl) (k := 3) (b := A.cb) (o := x.c) (by kernel_rfl) (.tuple #[msgV m p, .bool true]) (.tup [.agg (msgC m p), .atom (.bool true)]) (pair_tup hp true) (fun w hw => run_valS (hrun w hw)) ?_
      refine G.runE tm 100 ?_
      have hmem : LogOk m.log := hC _ (getM_mem hm)
      have hgm : getM r.changes (i : Int) = some m := hm
      refine G.callGRo (f := 129) (svs := [.atom (.sl p m.log.length)]) (d := 77) (tg := 73) (want := false) (k := 0) (by kernel_rfl) (bi := some A.rb) (T := 135) (cs := repC A r x) (by kernel_rfl) [p] (.bool (r.fits m.log)) (by kernel_rfl) (by kernel_rfl) (by kernel_rfl) (says_of (f129_rep hRg hk hkl hp)) ?_
      refine G.runE tm 100 ?_
      refine G.cond (!(r.fits m.log)) (by kernel_rfl) (fun hf => ?_) (fun hf => ?_)
      · simp only [Bool.not_eq_true'] at hf
        refine G.runE tm 100 ?_
        refine G.reint (k := .i64) 59 (by kernel_rfl) (wrap_succ hlt (by omega)) ?_
        exact G.back (by kernel_rfl) [0, 2, 3, 4, 58, 59] [0, 1, 2, 3] 4 [0] (by kernel_rfl) (by kernel_rfl) (IH (i + 1, q, v) _ ⟨hle, hlt, by rw [hstep]; unfold Rep.pick1; rw [hgm]; simp [hf], hlq, hv⟩ (by simp only; omega))
      simp only [Bool.not_eq_false'] at hf
      refine G.runE tm 100 ?_
      refine G.cond (decide (m.normal > q.normal) || ((m.normal == q.normal) && decide ((m.log.length : Int) > (q.log.length : Int)))) (by kernel_rfl) (fun hb => ?_) (fun hb => ?_)
      · have hb' : m.normal > q.normal ∨ (m.normal = q.normal ∧ (m.log.length : Int) > (q.log.length : Int)) := by simpa using hb
        refine G.runX tabR_ok tm 0 100 (by kernel_rfl) ?_
        refine G.reint (k := .i64) 59 (by kernel_rfl) (wrap_succ hlt (by omega)) ?_
        exact G.back (by kernel_rfl) [0, 2, 3, 4, 58, 59] [0, 1, 2, 3] 4 [0] (by kernel_rfl) (by kernel_rfl) (IH (i + 1, ⟨m.normal, m.log, imax q.done m.commit⟩, p) _ ⟨hle, hlt, by rw [hstep]; unfold Rep.pick1; rw [hgm]; simp only [hf, if_true, if_pos hb', imax_eq], hmem, hp⟩ (by simp only; omega))
      · have hb' : ¬ (m.normal > q.normal ∨ (m.normal = q.normal ∧ (m.log.length : Int) > (q.log.length : Int))) := by
          intro hx
          have : (decide (m.normal > q.normal) || ((m.normal == q.normal) && decide ((m.log.length : Int) > (q.log.length : Int)))) = true := by simpa using hx
          rw [hb] at this; cases this
        refine G.runX tabR_ok tm 0 100 (by kernel_rfl) ?_
        refine G.reint (k := .i64) 59 (by kernel_rfl) (wrap_succ hlt (by omega)) ?_
        exact G.back (by kernel_rfl) [0, 2, 3, 4, 58, 59] [0, 1, 2, 3] 4 [0] (by kernel_rfl) (by kernel_rfl) (IH (i + 1, ⟨q.normal, q.log, imax q.done m.commit⟩, v) _ ⟨hle, hlt, by rw [hstep]; unfold Rep.pick1; rw [hgm]; simp only [hf, if_true, if_neg hb', imax_eq], hlq, hv⟩ (by simp only; omega))
  · obtain rfl : i = r.n0 + 1 := by simp only [decide_eq_false_iff_not, Int.ofNat_eq_natCast] at hlt; omega
    refine G.runX tabR_ok tm 0 100 (by kernel_rfl) ?_
    refine G.callRep (f := 76) (svs := []) (d := some 133) rfl (by kernel_rfl) (by kernel_rfl) (by kernel_rfl) A { r with log := q.log, commit := imin q.done q.log.length, normal := r.view, changing := false } (r.settle q) ⟨v, x.ov, x.oxs, x.a, x.s, x.c⟩ ⟨by kernel_rfl, by kernel_rfl, by kernel_rfl, by kernel_rfl, by kernel_rfl⟩ [] (by kernel_rfl) Q0 (f76_ok.to (by simp [Rep.settle, imin_eq])) ⟨hv, hRg.out, hRg.ov, hRg.acks, hRg.starts, hRg.changes⟩ ?_
    rintro h2 x2 v2 hle2 hR2 rfl
    refine ⟨.tup [], unit_ok, ?_⟩
    refine G.runX tabR_ok tm 0 100 (by kernel_rfl) ?_
    refine G.callRep (f := 101) (svs := [.agg (toldC 6 q.log.length (r.settle q).commit x2.lv)]) (d := some 137) rfl (by kernel_rfl) (by kernel_rfl) (by kernel_rfl) A (r.settle q) r.decide_ x2 ⟨by kernel_rfl, by kernel_rfl, by kernel_rfl, by kernel_rfl, by kernel_rfl⟩ [toldV 6 q.log.length (r.settle q).commit x2.lv] (by kernel_rfl) Q0
      ((f101_ok (A := A) (h := h2) (r := r.settle q) (m := (r.settle q).told 6) (p := x2.lv) hR2.log hlq hn ho).to (by rw [hq]; simp only [Rep.decide_, hc, if_true])) hR2 ?_
    rintro h3 x3 v3 hle3 hR3 rfl
    refine ⟨.tup [], unit_ok, ?_⟩
    refine G.runE tm 100 ?_
    exact G.retRep Try.func128 Try.results128 unitV (by kernel_rfl) r.decide_ x3 (by kernel_rfl) (by kernel_rfl) rfl hR3 rfl
end Go.Proofs.Ytkjahaoobdbffaa

/- The replica in memory: seeing enough starts; what was had before. -/
namespace Go.Proofs.Ytkjahaoobdbffaa
open Go Go.RowKit
attribute [local irreducible] G GD GDop

def maySeeB (r : Rep) : Bool := ((!r.changing || r.said) || decide ((r.starts.length : Int) < IntKind.i64.wrap (IntKind.i64.wrap ((Int.ofNat (r.n0 + 1)).tdiv 2) + 1)))

theorem maySeeB_eq {r : Rep} (hn : r.n0 ≤ 1000) : maySeeB r = !r.maySee := by
  unfold maySeeB Rep.maySee Rep.half Rep.n
  rw [half_wrap hn, Bool.not_not]

/-- What a replica must be for its methods to go through. -/
structure RepOk (r : Rep) : Prop where
  com : ∃ k : Nat, r.commit = (k : Int) ∧ k ≤ r.log.length
  n0 : r.n0 ≤ 1000
  chl : r.changes.length ≤ 1000000
  log : LogOk r.log
  chs : ∀ q ∈ r.changes, LogOk q.2.log

set_option maxHeartbeats 4000000 in
theorem f127_ok {A : Adr} {h : GH} {r : Rep} (hr : RepOk r) (ho : r.out.length ≤ 900000) : RepCall A 127 [rptr A] h r r.see Q0 := by
  obtain ⟨⟨k, hk, hkl⟩, hn, hcl, hL, hC⟩ := hr
  refine RepCall.of [] Try.func127 (c := bodyOf Try.f127) (by kernel_rfl) Try.ntmps127 (fun _ _ => trivial) (by simp) fun w x hR => ?_
  refine G.runX tabR_ok tm 0 100 (by kernel_rfl) ?_
  refine G.semRd (m := builtin .len #[132] 3 #[false] #[.map (some A.sb)]) (d := some 20) (g := some (15, false)) (by kernel_rfl) (by kernel_rfl) (k := 2) (b := A.sb) (o := x.s) (by kernel_rfl) (.int .i64 r.starts.length) (.atom (.int .i64 r.starts.length)) (fun _ _ => rfl) (says_of fun w hw => hR.starts.len Try.underlying132 w hw) ?_
  refine G.runX tabR_ok tm 0 100 (by kernel_rfl) ?_
  refine G.cond (maySeeB r) (by kernel_rfl) (fun hc => ?_) (fun hc => ?_)
  · rw [maySeeB_eq hn] at hc
    simp only [Bool.not_eq_true'] at hc
    refine G.runE tm 100 ?_
    exact G.retRep Try.func127 Try.results127 unitV (by kernel_rfl) r x (by kernel_rfl) (by kernel_rfl) (by simp [Rep.see, hc]) hR rfl
  rw [maySeeB_eq hn] at hc
  simp only [Bool.not_eq_false'] at hc
  refine G.runX tabR_ok tm 0 100 (by kernel_rfl) ?_
  have hR1 : RepR h { r with said := true } x := ⟨hR.log, hR.out, hR.ov, hR.acks, hR.starts, hR.changes⟩
  refine G.cond (!(r.view.tmod (Int.ofNat (r.n0 + 1)) == r.id)) (by kernel_rfl) (fun hp => ?_) (fun hp => ?_)
  · have hp' : r.primary r.view ≠ r.id := by simpa [Rep.primary, Rep.n] using hp
    refine G.runX tabR_ok tm 0 100 (by kernel_rfl) ?_
    refine G.callRep (f := 83) (svs := [.atom (.int .i64 (r.primary r.view)), .agg (msgC { r.told 5 with normal := r.normal } x.lv)]) (d := some 53) rfl (by kernel_rfl) (by kernel_rfl) (by kernel_rfl) A { r with said := true } r.see x ⟨by kernel_rfl, by kernel_rfl, by kernel_rfl, by kernel_rfl, by kernel_rfl⟩ [.int .i64 (r.primary r.view), msgV { r.told 5 with normal := r.normal } x.lv] (by kernel_rfl) Q0
      ((f83_ok (A := A) (h := h) (r := { r with said := true }) (to := r.primary r.view) (m := { r.told 5 with normal := r.normal }) (p := x.lv) hR.log hL (by show r.out.length ≤ _; omega)).to (by simp only [Rep.see, hc, if_true, if_pos hp'])) hR1 ?_
    rintro h3 x3 v3 hle3 hR3 rfl
    refine ⟨.tup [], unit_ok, ?_⟩
    refine G.runE tm 100 ?_
    exact G.retRep Try.func127 Try.results127 unitV (by kernel_rfl) r.see x3 (by kernel_rfl) (by kernel_rfl) rfl hR3 rfl
  · have hp' : ¬ r.primary r.view ≠ r.id := by simpa [Rep.primary, Rep.n] using hp
    refine G.runX tabR_ok tm 0 100 (by kernel_rfl) ?_
    refine G.callRep (f := 128) (svs := []) (d := some 55) rfl (by kernel_rfl) (by kernel_rfl) (by kernel_rfl) A { r with said := true } r.see x ⟨by kernel_rfl, by kernel_rfl, by kernel_rfl, by kernel_rfl, by kernel_rfl⟩ [] (by kernel_rfl) Q0
      ((f128_ok (A := A) (h := h) (r := { r with said := true }) hk hkl hn ho hcl hL hC).to (by simp only [Rep.see, hc, if_true, if_neg hp'])) hR1 ?_
    rintro h3 x3 v3 hle3 hR3 rfl
    refine ⟨.tup [], unit_ok, ?_⟩
    refine G.runE tm 100 ?_
    exact G.retRep Try.func127 Try.results127 unitV (by kernel_rfl) r.see x3 (by kernel_rfl) (by kernel_rfl) rfl hR3 rfl
end Go.Proofs.Ytkjahaoobdbffaa

/- The replica in memory: following a primary. -/
namespace Go.Proofs.Ytkjahaoobdbffaa
open Go Go.RowKit
attribute [local irreducible] G GD GDop

/-- A branch whose ways meet again. -/
theorem G.join {C : Ctx} {h : GH} {c : Cfg} (b : Bool) (hc : condAt c = some b) (Φ : GH → S → Prop) (ht : b = true → (∀ h' s, Φ h' s → G C h' ⟨c.todo.tail, s⟩) → G C h (branch c true)) (hf : b = false → (∀ h' s, Φ h' s → G C h' ⟨c.todo.tail, s⟩) → G C h (branch c false))
    (hj : ∀ h' s, Φ h' s → G C h' ⟨c.todo.tail, s⟩) : G C h c :=
  G.cond b hc (fun e => ht e hj) (fun e => hf e hj)

/-- The replica with a message beside it. -/
def repMSn (A : Adr) (r : Rep) (x : RMem) (k n : Nat) (mc : List Cell) (slots : List (Nat × SV)) : S :=
  ⟨slots, [(0, ⟨some A.rb, .lit 135 (repCn A r x k n)⟩), (1, ⟨some A.ab, .obj x.a⟩), (2, ⟨some A.sb, .obj x.s⟩), (3, ⟨some A.cb, .obj x.c⟩), (4, ⟨none, .lit 45 mc⟩)], 5, [(0, ⟨45, 8, x.ov, n, x.oxs⟩)]⟩
def repMS (A : Adr) (r : Rep) (x : RMem) (mc : List Cell) (slots : List (Nat × SV)) : S := repMSn A r x r.log.length r.out.length mc slots

def sl03 : List (Nat × SV) := [(0, .one (.atom (.ptr 0 0))), (3, .one (.atom (.ptr 4 0)))]

theorem repMSn_eq {A : Adr} {r : Rep} {x : RMem} {k n : Nat} {mc : List Cell} {slots : List (Nat × SV)} (hk : k = r.log.length) (hn : n = r.out.length) : repMSn A r x k n mc slots = repMS A r x mc slots := by subst hk hn; rfl

set_option maxHeartbeats 8000000 in
theorem f79_ok {A : Adr} {h : GH} {r : Rep} {m : Msg} {p : Value} (hp : EntsR h p m.log) (hl : LogOk m.log) (hL : r.log.length ≤ 1000) (ho : r.out.length ≤ 900000) : RepCall A 79 [rptr A, msgV m p] h r (r.follow m) Q0 := by
  refine RepCall.of [.agg (msgC m p)] Try.func79 (c := bodyOf Try.f79) (by kernel_rfl) Try.ntmps79 (fun _ _ => ⟨msgC_ok hp _ _, trivial⟩) (by simp) fun w x hR => ?_
  refine G.runX tabR_ok tm 0 100 (by kernel_rfl) ?_
  refine G.cond (!(m.frm == m.view.tmod (Int.ofNat (r.n0 + 1)))) (by kernel_rfl) (fun hc => ?_) (fun hc => ?_)
  · have hc' : m.frm ≠ r.primary m.view := by simpa [Rep.primary, Rep.n] using hc
    refine G.runE tm 100 ?_
    exact G.retRep Try.func79 Try.results79 unitV (by kernel_rfl) r x (by kernel_rfl) (by kernel_rfl) (by simp only [Rep.follow, if_pos hc']) hR rfl
  have hc' : ¬ m.frm ≠ r.primary m.view := by simpa [Rep.primary, Rep.n] using hc
  have hfo : r.follow m = (((r.follow1 m).follow2 m).follow3 m).follow4 m := by simp only [Rep.follow, if_neg hc']
  rw [hfo]
  refine G.runX tabR_ok tm 0 100 (by kernel_rfl) ?_
  refine G.join (decide (m.view > r.view)) (by kernel_rfl) (fun h' s => ∃ x', s = repMS A (r.follow1 m) x' (msgC m p) sl03 ∧ GLe h h' ∧ RepR h' (r.follow1 m) x') (fun hv J => ?_) (fun hv J => ?_) ?_
  · have hv' : m.view > r.view := by simpa using hv
    have h1 : r.follow1 m = r.enter m.view := by simp only [Rep.follow1, if_pos hv']
    rw [h1] at J ⊢
    refine G.runX tabR_ok tm 1 100 (by kernel_rfl) ?_
    refine G.callRep (f := 125) (svs := [.atom (.int .i64 m.view)]) (d := some 23) rfl (by kernel_rfl) (by kernel_rfl) (by kernel_rfl) A r (r.enter m.view) x ⟨by kernel_rfl, by kernel_rfl, by kernel_rfl, by kernel_rfl, by kernel_rfl⟩ [.int .i64 m.view] (by kernel_rfl) Q0 f125_ok hR ?_
    rintro h2 x2 v2 hle2 hR2 rfl
    refine ⟨.tup [], unit_ok, ?_⟩
    refine G.runX tabR_ok tm 1 100 (by kernel_rfl) ?_
    exact G.back (by kernel_rfl) [0, 3] [0, 1, 2, 3, 4] 5 [0] (s' := repMS A (r.enter m.view) x2 (msgC m p) sl03) (by kernel_rfl) (by kernel_rfl) (J _ _ ⟨x2, rfl, hle2, hR2⟩)
  · have hv' : ¬ m.view > r.view := by simpa using hv
    have h1 : r.follow1 m = r := by simp only [Rep.follow1, if_neg hv']
    rw [h1] at J ⊢
    refine G.runX tabR_ok tm 1 100 (by kernel_rfl) ?_
    exact G.back (by kernel_rfl) [0, 3] [0, 1, 2, 3, 4] 5 [0] (s' := repMS A r x (msgC m p) sl03) (by kernel_rfl) (by kernel_rfl) (J _ _ ⟨x, rfl, GLe.refl _, hR⟩)
  have hq1 : (r.follow1 m).log = r.log ∧ (r.follow1 m).n0 = r.n0 ∧ (r.follow1 m).out = r.out := by
    unfold Rep.follow1; split <;> exact ⟨rfl, rfl, rfl⟩
  rintro h1 _ ⟨x1, rfl, hle1, hR1⟩
  generalize r.follow1 m = q at hR1 hq1 ⊢
  have hlen : q.log.length ≤ 1000 := by rw [hq1.1]; exact hL
  refine G.runX tabR_ok tm 0 100 (by kernel_rfl) ?_
  have hw : IntKind.i64.wrap ((q.log.length : Int) + 1) = q.len + 1 := by rw [IntWalk.i64_in _ (by omega)]; rfl
  have hR1' : RepR h1 { q with quiet := 0 } x1 := ⟨hR1.log, hR1.out, hR1.ov, hR1.acks, hR1.starts, hR1.changes⟩
  refine G.join ((!q.changing && m.kind == 1) && m.op == IntKind.i64.wrap ((q.log.length : Int) + 1)) (by kernel_rfl) (fun h' s => ∃ x', s = repMS A (q.follow2 m) x' (msgC m p) sl03 ∧ GLe h1 h' ∧ RepR h' (q.follow2 m) x') (fun hv J => ?_) (fun hv J => ?_) ?_
  · rw [hw] at hv
    have hv' : q.changing = false ∧ m.kind = 1 ∧ m.op = q.len + 1 := by simpa [and_assoc] using hv
    have e1 : q.follow2 m = { q with quiet := 0, log := q.log ++ m.log } := by simp only [Rep.follow2, if_pos hv']
    rw [e1] at J ⊢
    refine G.runX tabR_ok tm 1 100 (by kernel_rfl) ?_
    refine G.draw [] tm (by kernel_rfl) (by kernel_rfl) ?_
    refine GD.callJ tabR_ok (by kernel_rfl) 6 8 (f := 100) (svs := [.atom (.sl x1.lv q.log.length)]) (dst := some 51) [x1.lv] (by kernel_rfl) (by kernel_rfl) (by kernel_rfl) (by kernel_rfl) (by kernel_rfl) (fun h' v => EntsR h' v q.log ∧ (v = nilS ∨ ∃ a, v = .slice (some a) q.log.length q.log.length)) (fun w hw => (f100_ok hR1.log hw).mono fun e w' ⟨v', g1, g2, g3, g4⟩ => ⟨v', h1, g1, .of_below hw g2, g3, g4⟩) fun h2 v2 ⟨hv2, hfull⟩ hle2 => ⟨.one (.atom (.sl v2 q.log.length)), fun N β _ => SlR.sv hv2 N β, by kernel_rfl, by kernel_rfl, ?_⟩
    refine GD.callJ tabR_ok (by kernel_rfl) 9 8 (f := 77) (svs := [.atom (.sl p m.log.length)]) (dst := some 54) [p] (by kernel_rfl) (by kernel_rfl) (by kernel_rfl) (by kernel_rfl) (by kernel_rfl) (fun h' v => EntsR h' v m.log) (fun w hw => f77_ok ((hp.mono hle1).mono hle2) hl.2 (by have := hl.1; omega) hw) fun h3 p3 hp3 hle3 => ⟨.one (.atom (.sl p3 m.log.length)), fun N β _ => SlR.sv hp3 N β, by kernel_rfl, by kernel_rfl, ?_⟩
    refine GD.one 10 (by kernel_rfl) (GDop.appSl el22 (v := v2) (x := p3) (m := q.log.length) (q := m.log.length) (d := some 55) (by kernel_rfl) (by kernel_rfl) (hv2.mono hle3) hfull hp3 (fun _ _ hh => hh.one) (by have := hl.1; omega) (by decide) fun v4 h4 hle4 hv4 => ?_)
    refine GD.run (by kernel_rfl) 50 ?_
    refine GD.fin (by kernel_rfl) ?_
    refine G.runX tabR_ok tm 1 100 (by kernel_rfl) ?_
    refine G.back (by kernel_rfl) [0, 3] [0, 1, 2, 3, 4] 5 [0] (s' := repMSn A { q with quiet := 0, log := q.log ++ m.log } ⟨v4, x1.ov, x1.oxs, x1.a, x1.s, x1.c⟩ (q.log.length + m.log.length) q.out.length (msgC m p) sl03) (by kernel_rfl) (by kernel_rfl) (J _ _ ⟨⟨v4, x1.ov, x1.oxs, x1.a, x1.s, x1.c⟩, repMSn_eq (by simp) rfl, (hle2.trans hle3).trans hle4, ?_⟩)
    have hR4 := ((hR1.mono hle2).mono hle3).mono hle4
    exact ⟨hv4.mono (GLe.refl _) fun _ _ hh => hh.mono hle4, hR4.out, hR4.ov, hR4.acks, hR4.starts, hR4.changes⟩
  · rw [hw] at hv
    have hv' : ¬ (q.changing = false ∧ m.kind = 1 ∧ m.op = q.len + 1) := by
      intro hx
      have : ((!q.changing && m.kind == 1) && m.op == q.len + 1) = true := by simpa [and_assoc] using hx
      rw [hv] at this; cases this
    have e1 : q.follow2 m = { q with quiet := 0 } := by simp only [Rep.follow2, if_neg hv']
    rw [e1] at J ⊢
    refine G.runX tabR_ok tm 1 100 (by kernel_rfl) ?_
    exact G.back (by kernel_rfl) [0, 3] [0, 1, 2, 3, 4] 5 [0] (s' := repMS A { q with quiet := 0 } x1 (msgC m p) sl03) (by kernel_rfl) (by kernel_rfl) (J _ _ ⟨x1, rfl, GLe.refl _, hR1'⟩)
  have hq2 : (q.follow2 m).log.length ≤ 2000 ∧ (q.follow2 m).n0 = q.n0 ∧ (q.follow2 m).out = q.out := by
    unfold Rep.follow2; split
    · exact ⟨by have := hl.1; simp only [List.length_append]; omega, rfl, rfl⟩
    · exact ⟨by show q.log.length ≤ 2000; omega, rfl, rfl⟩
  rintro h2 _ ⟨x2, rfl, hle2, hR2⟩
  generalize q.follow2 m = s at hR2 hq2 ⊢
  refine G.runX tabR_ok tm 0 100 (by kernel_rfl) ?_
  refine G.join (s.changing || decide (m.op > (s.log.length : Int))) (by kernel_rfl) (fun h' z => ∃ x', z = repMS A (s.follow3 m) x' (msgC m p) sl03 ∧ GLe h2 h' ∧ RepR h' (s.follow3 m) x') (fun hv J => ?_) (fun hv J => ?_) ?_
  · have hv' : s.changing = true ∨ m.op > s.len := by simpa [Rep.len] using hv
    have e1 : s.follow3 m = s.send m.frm ⟨7, 0, 0, 0, s.len, 0, 0, []⟩ := by simp only [Rep.follow3, if_pos hv']
    rw [e1] at J ⊢
    refine G.runX tabR_ok tm 1 100 (by kernel_rfl) ?_
    refine G.draw [] tm (by kernel_rfl) (by kernel_rfl) ?_
    refine GD.autoT tabR_ok (by kernel_rfl) 8 (by kernel_rfl) (by kernel_rfl) ?_
    refine GD.one 6 (by kernel_rfl) (GDop.callRep (f := 83) (svs := [.atom (.int .i64 m.frm), .agg (msgC ⟨7, 0, 0, 0, s.log.length, 0, 0, []⟩ nilS)]) (d := some 76) rfl (by kernel_rfl) (by kernel_rfl) (by kernel_rfl) (by kernel_rfl) (by kernel_rfl) A s (s.send m.frm ⟨7, 0, 0, 0, s.len, 0, 0, []⟩) x2 ⟨by kernel_rfl, by kernel_rfl, by kernel_rfl, by kernel_rfl, by kernel_rfl⟩ [.int .i64 m.frm, msgV ⟨7, 0, 0, 0, s.log.length, 0, 0, []⟩ nilS] (by kernel_rfl) Q0
      (f83_ok ents_nil logOk_nil (by rw [hq2.2.2, hq1.2.2]; omega)) hR2 ?_)
    rintro h3 x3 v3 hle3 hR3 rfl
    refine ⟨.tup [], unit_ok, ?_⟩
    refine GD.run (by kernel_rfl) 50 ?_
    refine GD.fin (by kernel_rfl) ?_
    refine G.runX tabR_ok tm 1 100 (by kernel_rfl) ?_
    exact G.back (by kernel_rfl) [0, 3] [0, 1, 2, 3, 4] 5 [0] (s' := repMS A (s.send m.frm ⟨7, 0, 0, 0, s.len, 0, 0, []⟩) x3 (msgC m p) sl03) (by kernel_rfl) (by kernel_rfl) (J _ _ ⟨x3, rfl, hle3, hR3⟩)
  · have hv' : ¬ (s.changing = true ∨ m.op > s.len) := by
      intro hx
      have : (s.changing || decide (m.op > (s.log.length : Int))) = true := by simpa [Rep.len] using hx
      rw [hv] at this; cases this
    have e1 : s.follow3 m = s := by simp only [Rep.follow3, if_neg hv']
    rw [e1] at J ⊢
    refine G.runX tabR_ok tm 1 100 (by kernel_rfl) ?_
    exact G.back (by kernel_rfl) [0, 3] [0, 1, 2, 3, 4] 5 [0] (s' := repMS A s x2 (msgC m p) sl03) (by kernel_rfl) (by kernel_rfl) (J _ _ ⟨x2, rfl, GLe.refl _, hR2⟩)
  have hq3 : (s.follow3 m).out.length ≤ s.out.length + 1 := by
    unfold Rep.follow3; split
    · simp [Rep.send]
    · omega
  rintro h3 _ ⟨x3, rfl, hle3, hR3⟩
  generalize s.follow3 m = t at hR3 hq3 ⊢
  refine G.runX tabR_ok tm 0 100 (by kernel_rfl) ?_
  refine G.cond t.changing (by kernel_rfl) (fun hv => ?_) (fun hv => ?_)
  · refine G.runE tm 100 ?_
    exact G.retRep Try.func79 Try.results79 unitV (by kernel_rfl) t x3 (by kernel_rfl) (by kernel_rfl) (by simp only [Rep.follow4, if_pos hv]) hR3 rfl
  refine G.runX tabR_ok tm 0 100 (by kernel_rfl) ?_
  have hR4 : RepR h3 { t with commit := max t.commit (min m.commit t.len) } x3 := ⟨hR3.log, hR3.out, hR3.ov, hR3.acks, hR3.starts, hR3.changes⟩
  have hcm : imax t.commit (imin m.commit t.log.length) = max t.commit (min m.commit t.len) := by rw [imax_eq, imin_eq]; rfl
  have hv1 : ¬ t.changing = true := by rw [hv]; simp
  refine G.cond (!(decide (m.op > (t.log.length : Int)))) (by kernel_rfl) (fun hb => ?_) (fun hb => ?_)
  · have hb' : ¬ m.op > t.len := by simpa [Rep.len] using hb
    refine G.runX tabR_ok tm 0 100 (by kernel_rfl) ?_
    refine G.draw [] tm (by kernel_rfl) (by kernel_rfl) ?_
    refine GD.autoT tabR_ok (by kernel_rfl) 8 (by kernel_rfl) (by kernel_rfl) ?_
    refine GD.one 6 (by kernel_rfl) (GDop.callRep (f := 83) (svs := [.atom (.int .i64 m.frm), .agg (msgC ⟨2, 0, 0, 0, t.log.length, 0, 0, []⟩ nilS)]) (d := some 109) rfl (by kernel_rfl) (by kernel_rfl) (by kernel_rfl) (by kernel_rfl) (by kernel_rfl) A { t with commit := imax t.commit (imin m.commit t.log.length) } (t.follow4 m) x3 ⟨by kernel_rfl, by kernel_rfl, by kernel_rfl, by kernel_rfl, by kernel_rfl⟩ [.int .i64 m.frm, msgV ⟨2, 0, 0, 0, t.log.length, 0, 0, []⟩ nilS] (by kernel_rfl) Q0
      ((f83_ok ents_nil logOk_nil (by show t.out.length ≤ _; rw [hq2.2.2, hq1.2.2] at hq3; omega)).to (by simp only [Rep.follow4, if_neg hv1, if_neg hb', hcm]; rfl)) (by rw [hcm]; exact hR4) ?_)
    rintro h4 x4 v4 hle4 hR4' rfl
    refine ⟨.tup [], unit_ok, ?_⟩
    refine GD.run (by kernel_rfl) 50 ?_
    refine GD.fin (by kernel_rfl) ?_
    refine G.runE tm 100 ?_
    exact G.retRep Try.func79 Try.results79 unitV (by kernel_rfl) (t.follow4 m) x4 (by kernel_rfl) (by kernel_rfl) rfl hR4' rfl
  · have hb' : m.op > t.len := by simpa [Rep.len] using hb
    refine G.runE tm 100 ?_
    exact G.retRep Try.func79 Try.results79 unitV (by kernel_rfl) { t with commit := imax t.commit (imin m.commit t.log.length) } x3 (by kernel_rfl) (by kernel_rfl) (by simp only [Rep.follow4, if_neg hv1, if_pos hb', hcm]) (by rw [hcm]; exact hR4) rfl
end Go.Proofs.Ytkjahaoobdbffaa

/- The base of this seat's proofs, twenty-sixth part: operations by their meaning, whatever they do; going through a map. -/
namespace Go.Proofs.Ytkjahaoobdbffaa
open Go Go.RowKit

/-- **An operation by its meaning, whatever it does.** -/
theorem G.semW {C : Ctx} {h : GH} {c : Cfg} {m : Sem Next} {d : Option Nat} (hv : semAt c = some ⟨m, d, none⟩) (hd : dstOk C.n d = true)
    (H : ∀ β w tmps, Sim C.hE C.w0 C.inc C.n c.s h β w tmps → ∃ u w' β' s' sv, m.run C.P w = .ok (.value u) w' ∧ Sim C.hE C.w0 C.inc C.n s' h β' w' tmps ∧ (∀ tmps', SVOk s'.nb β' tmps' sv u) ∧ G C h (afterOp (withS c s') sv)) : G C h c := by
  intro β w tmps hS
  obtain ⟨todo, s⟩ := c
  unfold semAt at hv
  simp only at hv hS
  split at hv
  · rename_i ops i rest k'
    split at hv
    · rename_i o1 ho
      unfold semOf at hv
      split at hv
      · simp at hv
      · rename_i hsel
        split at hv
        · rename_i hg
          split at hv
          · rename_i hex
            simp only [Option.some.injEq, SemView.mk.injEq] at hv
            obtain ⟨rfl, rfl, -⟩ := hv
            obtain ⟨u, w', β', s', sv, h1, hS', hsv, hG⟩ := H β w tmps hS
            have hr : (execOp (evT tmps) o1).run C.P w = .ok (.value u) w' := by rw [sem_exec hS GOk.nil hsel hex]; exact h1
            have hw : Region.wanted o1 (yielded ops tmps) = true := by simp [Region.wanted, hg]
            have hk' := hG β' w'
            simp only [afterOp, withS, ho, Option.bind_some] at hk'
            refine Reach.value ho hw hr ?_
            rw [put_tmps]
            exact hk' _ (hS'.putD hd fun _ _ => hsv _)
          · simp at hv
        · split at hv
          · split at hv
            · simp at hv
            · simp at hv
          · simp at hv
    · simp at hv
  · simp at hv

theorem Sim.objAt {hE : GH} {w0 : World} {inc : List Nat} {n : Nat} {s : S} {h : GH} {β : Nat → Nat} {w : World} {tmps : Array Value} (hS : Sim hE w0 inc n s h β w tmps) {k b : Nat} {o : Obj} (hb : bx k s.boxes = some ⟨some b, .obj o⟩) : w.heap[b]? = some o ∧ β k = b := by
  have h1 := hS.box _ _ hb
  have h2 := (hS.fresh _ _ hb).1
  rw [h2] at h1
  exact ⟨h1, h2⟩

theorem Sim.drew {hE : GH} {w0 : World} {inc : List Nat} {n : Nat} {s : S} {h : GH} {β : Nat → Nat} {w : World} {tmps : Array Value} (hS : Sim hE w0 inc n s h β w tmps) : Sim hE w0 inc n s h β w.drew tmps :=
  hS.grow (.of_below hS.sub ((Below.refl _ _).drew))

/-- A new object, where another one is read. -/
theorem G.newObjR {C : Ctx} {h : GH} {c : Cfg} {m : Sem Next} {d : Option Nat} (hv : semAt c = some ⟨m, d, none⟩) (hd : dstOk C.n d = true) {k0 b0 : Nat} {o0 : Obj} (hb : bx k0 c.s.boxes = some ⟨some b0, .obj o0⟩) (o : Obj) (u : Nat → Value) (sv : Nat → SV1) (hsv : ∀ b N β, SV1Ok N β (sv b) (u b))
    (H : ∀ w : World, w.heap[b0]? = some o0 → m.run C.P w = .ok (.value (u w.heap.size)) (w.alloc o)) (hk : ∀ b, G C h (afterOp (withS c { c.s with boxes := (c.s.nb, ⟨some b, .obj o⟩) :: c.s.boxes, nb := c.s.nb + 1 }) (.one (sv b)))) : G C h c :=
  G.semW hv hd fun β w tmps hS => ⟨_, _, _, _, .one (sv w.heap.size), H w (hS.objAt hb).1, hS.newObj o, fun _ => hsv _ _ _, hk w.heap.size⟩

/-- A step through a map. -/
theorem G.mapNext {C : Ctx} {h : GH} {c : Cfg} {d : Option Nat} {ty : TypeId} {kr r km bm : Nat} {since c0 clock : Nat} {seen : Array Nat} {es : Array MapEntry}
    (hv : semAt c = some ⟨valS (Instr.next (.pointer (some ⟨r, 0, none⟩)) false ty), d, none⟩) (hd : dstOk C.n d = true) (hr : bx kr c.s.boxes = some ⟨some r, .obj (.mapIter (some bm) since seen c0)⟩) (hb : bx km c.s.boxes = some ⟨some bm, .obj (.map es clock)⟩) (hold : ∀ x ∈ es.toList, x.born < since) (hsc : since ≤ c0)
    (hend : (leftOf es seen).size = 0 → G C h (afterOp c (.tup [.atom (.bool false)])))
    (hnext : ∀ e ∈ (leftOf es seen).toList, G C h (afterOp (withS c { c.s with boxes := (kr, ⟨some r, .obj (.mapIter (some bm) since (seen.push e.born) clock)⟩) :: c.s.boxes }) (.tup [.atom (.bool true), SV1.ofV e.key, SV1.ofV e.val]))) : G C h c := by
  refine G.semW hv hd fun β w tmps hS => ?_
  obtain ⟨hr1, hr2⟩ := hS.objAt hr
  obtain ⟨hb1, -⟩ := hS.objAt hb
  rcases run_next_at (P := C.P) w ty r bm since c0 seen es clock hr1 hb1 hold hsc with ⟨h1, h2⟩ | ⟨e, he, w1, hw1, h2⟩
  · exact ⟨_, w, β, c.s, .tup [.atom (.bool false)], run_valS h2, hS, fun _ => ⟨_, rfl, rfl, trivial⟩, hend h1⟩
  · have hS1 : Sim C.hE C.w0 C.inc C.n c.s h β w1 tmps := by rcases hw1 with rfl | rfl; exact hS; exact hS.drew
    have hS2 := hS1.setObj hr (o' := .mapIter (some bm) since (seen.push e.born) clock)
    rw [hr2] at hS2
    exact ⟨_, _, β, _, .tup [.atom (.bool true), SV1.ofV e.key, SV1.ofV e.val], run_valS h2, hS2, fun _ => ⟨_, rfl, rfl, SV1ofV_ok _ _ _, SV1ofV_ok _ _ _, trivial⟩, hnext e he⟩

/-- The entry that has come up. -/
theorem G.mapEntry {C : Ctx} {h : GH} {c : Cfg} {d : Option Nat} {kr r km bm : Nat} {since clock : Nat} {seen : Array Nat} {es : Array MapEntry} {e : MapEntry}
    (hv : semAt c = some ⟨valS (Instr.entry (.pointer (some ⟨r, 0, none⟩))), d, none⟩) (hd : dstOk C.n d = true) (hr : bx kr c.s.boxes = some ⟨some r, .obj (.mapIter (some bm) since (seen.push e.born) clock)⟩) (hb : bx km c.s.boxes = some ⟨some bm, .obj (.map es clock)⟩) (he : e ∈ es.toList) (hn : (es.toList.map (·.born)).Nodup)
    (hk : G C h (afterOp c (.tup [SV1.ofV e.key, SV1.ofV e.val]))) : G C h c := by
  refine G.semW hv hd fun β w tmps hS => ?_
  obtain ⟨hr1, hr2⟩ := hS.objAt hr
  obtain ⟨hb1, -⟩ := hS.objAt hb
  exact ⟨_, w, β, c.s, .tup [SV1.ofV e.key, SV1.ofV e.val], run_valS (run_entry_at (P := C.P) w r bm since seen es clock e hr1 hb1 he hn), hS, fun _ => ⟨_, rfl, SV1ofV_ok _ _ _, SV1ofV_ok _ _ _, trivial⟩, hk⟩
end Go.Proofs.Ytkjahaoobdbffaa

/- Counting what a map holds, whatever the order. -/
namespace Go.Proofs.Ytkjahaoobdbffaa
open Go Go.RowKit

def geV (k : Int) (v : Value) : Bool := match v with
  | .int _ n => decide (n ≥ k)
  | _ => false

def cntS (es : List MapEntry) (seen : Array Nat) (k : Int) : Nat := es.countP fun e => seen.contains e.born && geV k e.val

theorem cntS_nil (es : List MapEntry) (k : Int) : cntS es #[] k = 0 := by
  unfold cntS
  rw [List.countP_eq_zero]
  simp

theorem cntS_push {es : List MapEntry} {seen : Array Nat} {k : Int} {e : MapEntry} (he : e ∈ es) (hn : (es.map (·.born)).Nodup) (hs : seen.contains e.born = false) :
    cntS es (seen.push e.born) k = cntS es seen k + (if geV k e.val = true then 1 else 0) := by
  unfold cntS
  have h1 : ∀ l : List MapEntry, l.countP (fun x => (seen.push e.born).contains x.born && geV k x.val) = l.countP (fun x => seen.contains x.born && geV k x.val) + l.countP (fun x => x.born == e.born && geV k x.val) := by
    intro l
    induction l with
    | nil => rfl
    | cons y l ih =>
      simp only [List.countP_cons, ih]
      have h2 : (seen.push e.born).contains y.born = (seen.contains y.born || y.born == e.born) := by
        rw [Bool.eq_iff_iff]
        simp [Array.contains_iff_mem, Array.mem_push]
      rw [h2]
      by_cases hy : y.born = e.born
      · have h3 : seen.contains y.born = false := by rw [hy]; exact hs
        rw [h3]
        simp [hy]
        omega
      · have h4 : (y.born == e.born) = false := by simpa using hy
        rw [h4]
        simp
        omega
  rw [h1]
  congr 1
  clear h1 hs
  induction es with
  | nil => simp at he
  | cons y l ih =>
    simp only [List.map_cons, List.nodup_cons] at hn
    simp only [List.countP_cons]
    simp only [List.mem_cons] at he
    rcases he with rfl | he
    · have : l.countP (fun x => x.born == e.born && geV k x.val) = 0 := by
        rw [List.countP_eq_zero]
        intro x hx
        have : x.born ≠ e.born := fun h => hn.1 (by rw [← h]; exact List.mem_map_of_mem hx)
        simp [this]
      rw [this]
      simp
    · have hne : y.born ≠ e.born := fun h => hn.1 (by rw [h]; exact List.mem_map_of_mem he)
      rw [ih he hn.2]
      simp [hne]

theorem mem_leftOf {es : Array MapEntry} {seen : Array Nat} {e : MapEntry} (h : e ∈ (leftOf es seen).toList) : e ∈ es.toList ∧ seen.contains e.born = false := by
  unfold leftOf at h
  simp only [Array.toList_filter, List.mem_filter] at h
  exact ⟨h.1, by simpa using h.2⟩

theorem cntS_full {es : Array MapEntry} {seen : Array Nat} (k : Int) (h : (leftOf es seen).size = 0) : cntS es.toList seen k = es.toList.countP fun e => geV k e.val := by
  unfold cntS
  apply List.countP_congr
  intro e he
  have h1 : seen.contains e.born = true := by
    cases hc : seen.contains e.born with
    | true => rfl
    | false =>
      exfalso
      have : e ∈ (leftOf es seen).toList := by
        unfold leftOf
        simp only [Array.toList_filter, List.mem_filter]
        exact ⟨he, by rw [hc]; rfl⟩
      have h2 : (leftOf es seen).toList.length = 0 := by simpa using h
      have := List.length_pos_of_mem this
      omega
  rw [h1]
  simp

theorem filter_lt {α : Type} (p q : α → Bool) : ∀ {l : List α}, (∀ x ∈ l, q x = true → p x = true) → (∃ x ∈ l, p x = true ∧ q x = false) → (l.filter q).length < (l.filter p).length := by
  intro l
  have hle : ∀ l : List α, (∀ x ∈ l, q x = true → p x = true) → (l.filter q).length ≤ (l.filter p).length := by
    intro l
    induction l with
    | nil => intro _; simp
    | cons y l ih =>
      intro h
      have h1 := ih fun x hx => h x (by simp [hx])
      have h2 := h y (by simp)
      simp only [List.filter_cons]
      by_cases hq : q y = true
      · rw [if_pos hq, if_pos (h2 hq)]; simp; exact h1
      · rw [if_neg hq]; split
        · simp; omega
        · exact h1
  induction l with
  | nil => rintro _ ⟨x, hx, -⟩; simp at hx
  | cons y l ih =>
    rintro h ⟨x, hx, hp, hq⟩
    have h1 : ∀ x ∈ l, q x = true → p x = true := fun x hx => h x (by simp [hx])
    simp only [List.filter_cons]
    simp only [List.mem_cons] at hx
    rcases hx with rfl | hx
    · rw [if_pos hp, hq]
      have := hle l h1
      simp
      omega
    · have h3 := ih h1 ⟨x, hx, hp, hq⟩
      by_cases hqy : q y = true
      · rw [if_pos hqy, if_pos (h y (by simp) hqy)]; simp; exact h3
      · rw [if_neg hqy]; split
        · simp; omega
        · exact h3

theorem leftOf_lt {es : Array MapEntry} {seen : Array Nat} {e : MapEntry} (h : e ∈ (leftOf es seen).toList) : (leftOf es (seen.push e.born)).size < (leftOf es seen).size := by
  obtain ⟨h1, h2⟩ := mem_leftOf h
  have := filter_lt (fun x : MapEntry => !seen.contains x.born) (fun x => !(seen.push e.born).contains x.born) (l := es.toList) (fun x _ hx => by
    simp [Array.contains_iff_mem, Array.mem_push] at hx ⊢
    exact hx.1) ⟨e, h1, by rw [h2]; rfl, by simp [Array.contains_iff_mem, Array.mem_push]⟩
  have h3 : ∀ s : Array Nat, (leftOf es s).size = (es.toList.filter fun x : MapEntry => !s.contains x.born).length := fun s => by
    have : (leftOf es s).toList = es.toList.filter fun x : MapEntry => !s.contains x.born := by unfold leftOf; simp only [Array.toList_filter]
    rw [← this]; rfl
  rw [h3, h3]
  exact this

/-- What a map of whole numbers holds. -/
theorem countP_rows {es : Array MapEntry} {l : List (Int × Int)} (k : Int) (hs : es.size = l.length) (h : ∀ (i : Nat) (p : Int × Int), l[i]? = some p → ∃ e : MapEntry, es[i]? = some e ∧ e.key = .int .i64 p.1 ∧ e.val = .int .i64 p.2) :
    es.toList.countP (fun e => geV k e.val) = l.countP fun p => decide (p.2 ≥ k) := by
  have h1 : es.toList.map (fun e => e.val) = l.map fun p => Value.int .i64 p.2 := by
    apply List.ext_getElem?
    intro i
    simp only [List.getElem?_map]
    cases hi : l[i]? with
    | none =>
      have : es.toList[i]? = none := by
        rw [List.getElem?_eq_none_iff] at hi ⊢
        simpa [hs] using hi
      rw [this]; rfl
    | some p =>
      obtain ⟨e, h2, h3, h4⟩ := h i p hi
      have : es.toList[i]? = some e := by simpa using h2
      rw [this]
      simp [h4]
  have h2 : es.toList.countP (fun e => geV k e.val) = (es.toList.map fun e => e.val).countP (geV k) := by rw [List.countP_map]; rfl
  rw [h2, h1, List.countP_map]
  rfl
end Go.Proofs.Ytkjahaoobdbffaa

/- The base of this seat's proofs, twenty-seventh part: an object read inside a region of open order, at whatever place it comes up. -/
namespace Go.Proofs.Ytkjahaoobdbffaa
open Go Go.RowKit

theorem GD.rdJ {C : Ctx} {h0 h : GH} {tab : Tab} (ht : TabOk C.P tab) {ops : Array Oper} {k : List Item} {ks : List Nat} {d : DCfg} (hns : Region.noSelect ops = true) (j m : Nat) {mm : Sem Next} {dst : Option Nat} {g : Option (Nat × Bool)} {kk b : Nat} {o : Obj} (u : Value) (sv : SV1)
    (hx : ((Ytkjahaoobdbffaa.explJ C.P C.n tab ops ks j m d).map fun l => l.map fun x => (semAtD ops x j, bx kk x.s.boxes)) = some (((Ytkjahaoobdbffaa.explJ C.P C.n tab ops ks j m d).getD []).map fun _ => (some ⟨mm, dst, g⟩, some ⟨some b, .obj o⟩)))
    (hok : gOk C.n dst g = true) (hsv : ∀ N β, SV1Ok N β sv u) (hrun : ∀ w, w.heap[b]? = some o → mm.run C.P w = .ok (.value u) w)
    (hp : (postJ C.P C.n tab ops ks j m d (gdOf g sv)).map normD = (postJ C.P C.n tab ops ks j m d (gdOf g sv)).map (fun _ => postD C.P C.n tab ops ks j m d (gdOf g sv))) (hod : okDs (postJ C.P C.n tab ops ks j m d (gdOf g sv)) = true)
    (hk : GD C h0 h ops k ks (postD C.P C.n tab ops ks j m d (gdOf g sv))) : GD C h0 h ops k ks d := by
  cases hl : Ytkjahaoobdbffaa.explJ C.P C.n tab ops ks j m d with
  | none => rw [hl] at hx; simp at hx
  | some l =>
    rw [hl] at hx
    simp only [Option.map_some, Option.some.injEq, Option.getD_some] at hx
    refine GD.explJ ht hns j m hl fun x hxl => ?_
    have h1 := List.map_inj_left.1 hx x hxl
    simp only [Prod.mk.injEq] at h1
    refine GDop.semRd h1.1 hok h1.2 u sv hsv (says_of hrun) ?_
    refine GD.explT ht hns m fun z hz => ?_
    have hzm : z ∈ postJ C.P C.n tab ops ks j m d (gdOf g sv) := by
      unfold postJ
      rw [hl]
      simp only [Option.getD_some, List.mem_flatMap]
      exact ⟨x, hxl, hz⟩
    exact GD.norm (okDs_mem hod z hzm) (by rw [List.map_inj_left.1 hp z hzm]; exact hk)
end Go.Proofs.Ytkjahaoobdbffaa

/- The replica in memory: acknowledgements. -/
namespace Go.Proofs.Ytkjahaoobdbffaa
open Go Go.RowKit
attribute [local irreducible] G GD GDop

theorem zero3 : ∃ i, Try.prog.info? 3 = some i ∧ i.zero = some (.int .i64 0) := by
  have h : ((Try.prog.info? 3).bind fun i => i.zero) = some (.int .i64 0) := by kernel_rfl
  cases hi : Try.prog.info? 3 with
  | none => rw [hi] at h; simp at h
  | some i => rw [hi] at h; exact ⟨i, rfl, h⟩

def mayAck (r : Rep) (m : Msg) : Bool := !(m.view == r.view) || !(roleI r.changing (Int.ofNat (r.n0 + 1)) r.view r.id == 1)

theorem role_eq (r : Rep) : roleI r.changing (Int.ofNat (r.n0 + 1)) r.view r.id = r.role := by
  unfold roleI Rep.role Rep.primary Rep.n
  cases r.changing with
  | true => rfl
  | false =>
    by_cases h : r.view.tmod (Int.ofNat (r.n0 + 1)) = r.id
    · simp [h]
    · simp only [cond_false, Bool.false_eq_true, if_false, if_neg h]
      have : (r.view.tmod (Int.ofNat (r.n0 + 1)) == r.id) = false := by simpa using h
      rw [this]; rfl

set_option maxHeartbeats 8000000 in
theorem f80_ok {A : Adr} {h : GH} {r : Rep} {m : Msg} {p : Value} (hp : EntsR h p m.log) (hc0 : ∃ k : Nat, r.commit = (k : Int)) (hL : r.log.length ≤ 2000) (hn : r.n0 ≤ 1000) (hal : r.acks.length ≤ 1000000) : RepCall A 80 [rptr A, msgV m p] h r (r.ack m) Q0 := by
  refine RepCall.of [.agg (msgC m p)] Try.func80 (c := bodyOf Try.f80) (by kernel_rfl) Try.ntmps80 (fun _ _ => ⟨msgC_ok hp _ _, trivial⟩) (by simp) fun w x hR => ?_
  refine G.runX tabR_ok tm 0 100 (by kernel_rfl) ?_
  refine G.cond (mayAck r m) (by kernel_rfl) (fun hc => ?_) (fun hc => ?_)
  · have hc' : m.view ≠ r.view ∨ r.role ≠ 1 := by unfold mayAck at hc; rw [role_eq] at hc; simpa using hc
    refine G.runE tm 100 ?_
    exact G.retRep Try.func80 Try.results80 unitV (by kernel_rfl) r x (by kernel_rfl) (by kernel_rfl) (by simp only [Rep.ack, if_pos hc']) hR rfl
  have hc' : ¬ (m.view ≠ r.view ∨ r.role ≠ 1) := by
    intro hx
    have : mayAck r m = true := by unfold mayAck; rw [role_eq]; simpa using hx
    rw [hc] at this; cases this
  have hack : r.ack m = (r.ack1 m).ackN r.log.length := by simp only [Rep.ack, if_neg hc']
  rw [hack]
  refine G.runX tabR_ok tm 0 100 (by kernel_rfl) ?_
  refine G.draw [0, 4] tm (by kernel_rfl) (by kernel_rfl) ?_
  have hlook : ∃ a : Int, a = (getM r.acks m.frm).getD 0 ∧ ∀ w : World, w.heap[A.ab]? = some x.a → (Instr.lookup 131 (.map (some A.ab)) (.int .i64 m.frm) false).run Try.prog w = .ok (.int .i64 a) w := by
    rcases hR.acks.lookup (P := Try.prog) (b := A.ab) Try.underlying131 Try.underlying3 zero3 m.frm false with ⟨h1, h2⟩ | ⟨y, v, h1, h2, h3⟩
    · exact ⟨0, by rw [h1]; rfl, fun w hw => by simpa using h2 w hw⟩
    · unfold IntV at h2; subst h2
      exact ⟨y, by rw [h1]; rfl, fun w hw => by simpa using h3 w hw⟩
  obtain ⟨a, ha, hrun⟩ := hlook
  refine GD.rdJ tabR_ok (by kernel_rfl) 12 8 (mm := valS (Instr.lookup 131 (.map (some A.ab)) (.int .i64 m.frm) false)) (dst := some 33) (g := none) (kk := 1) (b := A.ab) (o := x.a) (.int .i64 a) (.atom (.int .i64 a)) (by kernel_rfl) (by kernel_rfl) (fun _ _ => rfl) (fun w hw => run_valS (hrun w hw)) (by kernel_rfl) (by kernel_rfl) ?_
  obtain ⟨oa, hoa, hupd⟩ := hR.acks.update (P := Try.prog) (b := A.ab) Try.underlying131 Try.underlying3 m.frm (v := .int .i64 (imax a (imin m.op r.log.length))) (x := imax a (imin m.op r.log.length)) rfl
  refine GD.one 19 (by kernel_rfl) (GDop.semObj (m := unitS (Instr.mapUpdate 131 (.map (some A.ab)) (.int .i64 m.frm) (.int .i64 (imax a (imin m.op r.log.length))))) (d := none) (by kernel_rfl) (by kernel_rfl) (k := 1) (b := A.ab) (o := x.a) (o' := oa) (by kernel_rfl) (by kernel_rfl) undef (.atom .any) (fun _ _ => trivial) ⟨.skip, .inl ⟨rfl, rfl⟩, fun w hw => upd_skip (hupd w hw)⟩ ?_)
  refine GD.run (by kernel_rfl) 50 ?_
  refine GD.fin (by kernel_rfl) ?_
  refine G.runX tabR_ok tm 0 100 (by kernel_rfl) ?_
  have ha1 : r.ack1 m = { r with acks := setM r.acks m.frm (imax a (imin m.op r.log.length)) } := by simp only [Rep.ack1, imax_eq, imin_eq, ha]; rfl
  rw [ha1]
  have hR1 : RepR h { r with acks := setM r.acks m.frm (imax a (imin m.op r.log.length)) } ⟨x.lv, x.ov, x.oxs, oa, x.s, x.c⟩ := ⟨hR.log, hR.out, hR.ov, hoa, hR.starts, hR.changes⟩
  have hal1 : (setM r.acks m.frm (imax a (imin m.op r.log.length))).length ≤ 1000001 := by unfold setM; split <;> simp <;> omega
  refine G.weaken [0, 4] [0, 1, 2, 3] 4 [0] (s' := repS A { r with acks := setM r.acks m.frm (imax a (imin m.op r.log.length)) } ⟨x.lv, x.ov, x.oxs, oa, x.s, x.c⟩ [(0, .one (.atom (.ptr 0 0))), (4, .one (.atom (.int .i64 r.log.length)))]) (by kernel_rfl) (by kernel_rfl) ?_
  have hlen1 : ({ r with acks := setM r.acks m.frm (imax a (imin m.op r.log.length)) } : Rep).log.length = r.log.length := rfl
  have hfacts : ({ r with acks := setM r.acks m.frm (imax a (imin m.op r.log.length)) } : Rep).commit = r.commit ∧ ({ r with acks := setM r.acks m.frm (imax a (imin m.op r.log.length)) } : Rep).n0 = r.n0 ∧ ({ r with acks := setM r.acks m.frm (imax a (imin m.op r.log.length)) } : Rep).acks.length ≤ 1000001 := ⟨rfl, rfl, hal1⟩
  generalize ({ r with acks := setM r.acks m.frm (imax a (imin m.op r.log.length)) } : Rep) = q at hR1 hlen1 hfacts ⊢
  obtain ⟨⟨es, clock, hya, hsz, hrow, hnd, hborn⟩, hkeys⟩ := hR1.acks
  simp only at hya
  subst hya
  obtain ⟨kc, hkc⟩ := hc0
  rw [← hfacts.1] at hkc
  refine G.loop (α := Nat) (fun k => repS A q ⟨x.lv, x.ov, x.oxs, .map es clock, x.s, x.c⟩ [(0, .one (.atom (.ptr 0 0))), (4, .one (.atom (.int .i64 (k : Nat))))]) (fun k g => g = h ∧ k ≤ r.log.length ∧ q.ackN r.log.length = q.ackN k) (fun k => k) r.log.length [0, 4] [0, 1, 2, 3] 4 [0] (by kernel_rfl) (by kernel_rfl) (by kernel_rfl) ⟨rfl, Nat.le_refl _, rfl⟩ ?_
  rintro k g ⟨rfl, hkl, hak⟩ IH
  refine G.runX tabR_ok tm 0 100 (by kernel_rfl) ?_
  refine G.cond (decide ((k : Int) > q.commit)) (by kernel_rfl) (fun hgt => ?_) (fun hgt => ?_)
  · have hgt : (k : Int) > q.commit := by simpa using hgt
    obtain ⟨j, rfl⟩ : ∃ j, k = j + 1 := ⟨k - 1, by omega⟩
    refine G.runX tabR_ok tm 0 100 (by kernel_rfl) ?_
    refine G.newObjR (m := valS (Instr.range 131 (.map (some A.ab)))) (d := some 55) (by kernel_rfl) (by kernel_rfl) (k0 := 1) (b0 := A.ab) (o0 := .map es clock) (by kernel_rfl) (.mapIter (some A.ab) clock #[] clock) (fun b => .pointer (some ⟨b, 0, none⟩)) (fun b => .atom (.raw (.pointer (some ⟨b, 0, none⟩)))) (fun b => rawp_ok b 0) (fun w hw => run_valS (run_range_map w 131 3 3 A.ab es clock Try.underlying131 hw)) fun b => ?_
    refine G.runX tabR_ok tm 0 100 (by kernel_rfl) ?_
    refine G.loop (α := Array Nat × Nat) (fun z => ⟨[(0, .one (.atom (.ptr 0 0))), (4, .one (.atom (.int .i64 ((j + 1 : Nat) : Int)))), (5, .one (.atom (.int .i64 ((1 + cntS es.toList z.1 (j + 1 : Nat) : Nat) : Int)))), (55, .one (.atom (.raw (.pointer (some ⟨b, 0, none⟩)))))], repBx A q ⟨x.lv, x.ov, x.oxs, .map es clock, x.s, x.c⟩ ++ [(4, ⟨some b, .obj (.mapIter (some A.ab) clock z.1 z.2)⟩)], 5, repOw q ⟨x.lv, x.ov, x.oxs, .map es clock, x.s, x.c⟩⟩)
      (fun z g' => g' = g ∧ clock ≤ z.2) (fun z => (leftOf es z.1).size) (#[], clock) [0, 4, 5, 55] [0, 1, 2, 3, 4] 5 [0] (by kernel_rfl) (by simp only [cntS_nil]; kernel_rfl) (by kernel_rfl) ⟨rfl, Nat.le_refl _⟩ ?_
    rintro ⟨seen, c0⟩ g' ⟨rfl, hc0⟩ IH2
    simp only at hc0 IH2
    refine G.runX tabR_ok tm 0 100 (by kernel_rfl) ?_
    refine G.mapNext (d := some 56) (ty := 0) (kr := 4) (r := b) (km := 1) (bm := A.ab) (since := clock) (c0 := c0) (clock := clock) (seen := seen) (es := es) (by kernel_rfl) (by kernel_rfl) (by kernel_rfl) (by kernel_rfl) hborn hc0 (fun hend => ?_) (fun e he => ?_)
    · refine G.runX tabR_ok tm 0 100 (by kernel_rfl) ?_
      refine G.cond false (by kernel_rfl) (fun hc => by cases hc) (fun _ => ?_)
      refine G.runX tabR_ok tm 0 100 (by kernel_rfl) ?_
      have hcnt : ((1 + cntS es.toList seen (j + 1 : Nat) : Nat) : Int) = q.acked (j + 1) := by
        rw [cntS_full _ hend, countP_rows _ hsz hrow]
        simp only [Rep.acked]
        omega
      have hstep : q.ackN (j + 1) = if ((j + 1 : Nat) : Int) > q.commit then (if q.acked (j + 1) ≥ q.half then { q with commit := ((j + 1 : Nat) : Int) } else q.ackN j) else q := rfl
      rw [if_pos hgt, ← hcnt] at hstep
      have hhalf : IntKind.i64.wrap (IntKind.i64.wrap ((Int.ofNat (q.n0 + 1)).tdiv 2) + 1) = q.half := by rw [half_wrap (by rw [hfacts.2.1]; exact hn)]; rfl
      refine G.cond (decide (((1 + cntS es.toList seen (j + 1 : Nat) : Nat) : Int) ≥ IntKind.i64.wrap (IntKind.i64.wrap ((Int.ofNat (q.n0 + 1)).tdiv 2) + 1))) (by kernel_rfl) (fun hge => ?_) (fun hge => ?_)
      · rw [hhalf] at hge
        have hge' := of_decide_eq_true hge
        refine G.runX tabR_ok tm 0 100 (by kernel_rfl) ?_
        exact G.retRep Try.func80 Try.results80 unitV (by kernel_rfl) { q with commit := ((j + 1 : Nat) : Int) } ⟨x.lv, x.ov, x.oxs, .map es clock, x.s, x.c⟩ (by kernel_rfl) (by kernel_rfl) (by rw [hak, hstep, if_pos hge']) ⟨hR1.log, hR1.out, hR1.ov, ⟨⟨es, clock, rfl, hsz, hrow, hnd, hborn⟩, hkeys⟩, hR1.starts, hR1.changes⟩ rfl
      · rw [hhalf] at hge
        have hge' := of_decide_eq_false hge
        refine G.runX tabR_ok tm 0 100 (by kernel_rfl) ?_
        refine G.reint (k := .i64) 4 (a := IntKind.i64.wrap (((j + 1 : Nat) : Int) - 1)) (b := (j : Int)) (by kernel_rfl) (by rw [IntWalk.i64_in _ (by omega)]; omega) ?_
        exact G.back (by kernel_rfl) [0, 4] [0, 1, 2, 3] 4 [0] (by kernel_rfl) (by kernel_rfl) (IH j _ ⟨rfl, by omega, by rw [hak, hstep, if_neg hge']⟩ (Nat.lt_succ_self _))
    · obtain ⟨hmem, hns⟩ := mem_leftOf he
      obtain ⟨ix, hix⟩ := List.getElem?_of_mem hmem
      have hval : ∃ kk vv : Int, e.key = .int .i64 kk ∧ e.val = .int .i64 vv := by
        have hlt : ix < q.acks.length := by
          have := (List.getElem?_eq_some_iff.1 hix).1
          rw [← hsz]; simpa using this
        obtain ⟨pr, hpr⟩ := get_of_lt hlt
        obtain ⟨e', h1, h2, h3⟩ := hrow ix pr hpr
        have : e' = e := by
          have h4 : es.toList[ix]? = some e' := by simpa using h1
          rw [hix] at h4
          exact (Option.some.inj h4).symm
        subst this
        exact ⟨_, _, h2, h3⟩
      obtain ⟨kk, vv, hek, hev⟩ := hval
      have hpush := cntS_push (k := ((j + 1 : Nat) : Int)) hmem hnd hns
      rw [hev] at hpush
      simp only [geV, decide_eq_true_eq] at hpush
      rw [hek, hev]
      refine G.runX tabR_ok tm 0 100 (by kernel_rfl) ?_
      refine G.cond true (by kernel_rfl) (fun _ => ?_) (fun hc => by cases hc)
      refine G.runX tabR_ok tm 0 100 (by kernel_rfl) ?_
      refine G.mapEntry (d := some 58) (kr := 4) (r := b) (km := 1) (bm := A.ab) (since := clock) (clock := clock) (seen := seen) (es := es) (e := e) (by kernel_rfl) (by kernel_rfl) (by kernel_rfl) (by kernel_rfl) hmem hnd ?_
      rw [hek, hev]
      refine G.runX tabR_ok tm 0 100 (by kernel_rfl) ?_
      have hcb : cntS es.toList seen (j + 1 : Nat) ≤ 1000001 := by
        have h1 : cntS es.toList seen (j + 1 : Nat) ≤ es.toList.length := List.countP_le_length
        have h2 : es.toList.length = q.acks.length := by rw [Array.length_toList]; exact hsz
        omega
      refine G.cond (decide (vv ≥ ((j + 1 : Nat) : Int))) (by kernel_rfl) (fun hge => ?_) (fun hge => ?_)
      · have hge' := of_decide_eq_true hge
        rw [if_pos hge'] at hpush
        refine G.runX tabR_ok tm 0 100 (by kernel_rfl) ?_
        refine G.reint (k := .i64) 5 (a := IntKind.i64.wrap (((1 + cntS es.toList seen (j + 1 : Nat) : Nat) : Int) + 1)) (b := ((1 + cntS es.toList (seen.push e.born) (j + 1 : Nat) : Nat) : Int)) (by kernel_rfl) (by rw [IntWalk.i64_in _ (by omega), hpush]; omega) ?_
        exact G.back (by kernel_rfl) [0, 4, 5, 55] [0, 1, 2, 3, 4] 5 [0] (by kernel_rfl) (by kernel_rfl) (IH2 (seen.push e.born, clock) _ ⟨rfl, Nat.le_refl _⟩ (leftOf_lt he))
      · have hge' := of_decide_eq_false hge
        rw [if_neg hge'] at hpush
        refine G.runX tabR_ok tm 0 100 (by kernel_rfl) ?_
        refine G.reint (k := .i64) 5 (a := ((1 + cntS es.toList seen (j + 1 : Nat) : Nat) : Int)) (b := ((1 + cntS es.toList (seen.push e.born) (j + 1 : Nat) : Nat) : Int)) (by kernel_rfl) (by rw [hpush]; rfl) ?_
        exact G.back (by kernel_rfl) [0, 4, 5, 55] [0, 1, 2, 3, 4] 5 [0] (by kernel_rfl) (by kernel_rfl) (IH2 (seen.push e.born, clock) _ ⟨rfl, Nat.le_refl _⟩ (leftOf_lt he))
  · have hgt' : ¬ ((k : Int) > q.commit) := by simpa using hgt
    refine G.runX tabR_ok tm 0 100 (by kernel_rfl) ?_
    exact G.retRep Try.func80 Try.results80 unitV (by kernel_rfl) q ⟨x.lv, x.ov, x.oxs, .map es clock, x.s, x.c⟩ (by kernel_rfl) (by kernel_rfl) (by
      rw [hak]
      cases k with
      | zero => rfl
      | succ k => simp only [Rep.ackN]; rw [if_neg hgt']) ⟨hR1.log, hR1.out, hR1.ov, ⟨⟨es, clock, rfl, hsz, hrow, hnd, hborn⟩, hkeys⟩, hR1.starts, hR1.changes⟩ rfl
end Go.Proofs.Ytkjahaoobdbffaa

/- The replica in memory: a change of view. -/
namespace Go.Proofs.Ytkjahaoobdbffaa
open Go Go.RowKit
attribute [local irreducible] G GD GDop

theorem setM_mem {α : Type} {l : List (Int × α)} {k : Int} {x : α} {q : Int × α} (h : q ∈ setM l k x) : q ∈ l ∨ q.2 = x := by
  unfold setM at h
  split at h
  · simp only [List.mem_map] at h
    obtain ⟨p, h1, h2⟩ := h
    split at h2
    · exact .inr (by rw [← h2])
    · exact .inl (by rw [← h2]; exact h1)
  · simp only [List.mem_append, List.mem_singleton] at h
    rcases h with h | h
    · exact .inl h
    · exact .inr (by rw [h])

theorem setM_len {α : Type} (l : List (Int × α)) (k : Int) (x : α) : (setM l k x).length ≤ l.length + 1 := by
  unfold setM
  split <;> simp

theorem say_same (r : Rep) (m : Msg) : ∃ o, r.say m = { r with out := o } ∧ o.length ≤ r.out.length + (r.n0 + 1) := sayN_same r m _

/-- The beginning of a change leaves what is done. -/
theorem begin_same (r : Rep) (v : Int) : (r.begin v).commit = r.commit ∧ (r.begin v).log = r.log ∧ (r.begin v).n0 = r.n0 ∧ (r.begin v).changes = [] ∧ (r.begin v).acks = [] ∧ (r.begin v).id = r.id ∧ (r.begin v).out.length ≤ r.out.length + (r.n0 + 1) := by
  obtain ⟨o, h1, h2⟩ := say_same ({ r.enter v with starts := setM (r.enter v).starts r.id true } : Rep) ⟨4, 0, 0, 0, 0, 0, 0, []⟩
  have : r.begin v = { ({ r.enter v with starts := setM (r.enter v).starts r.id true } : Rep) with out := o } := h1
  rw [this]
  exact ⟨rfl, rfl, rfl, rfl, rfl, rfl, h2⟩

theorem turn1_same (r : Rep) (m : Msg) : (r.turn1 m).commit = r.commit ∧ (r.turn1 m).log = r.log ∧ (r.turn1 m).n0 = r.n0 ∧ ((r.turn1 m).changes = [] ∨ (r.turn1 m).changes = r.changes) ∧ (r.turn1 m).out.length ≤ r.out.length + (r.n0 + 1) := by
  unfold Rep.turn1
  split
  · obtain ⟨h1, h2, h3, h4, h5, h6, h7⟩ := begin_same r m.view
    exact ⟨h1, h2, h3, .inl h4, h7⟩
  · exact ⟨rfl, rfl, rfl, .inr rfl, by omega⟩

set_option maxHeartbeats 8000000 in
theorem f81_ok {A : Adr} {h : GH} {r : Rep} {m : Msg} {p : Value} (hp : EntsR h p m.log) (hl : LogOk m.log) (hr : RepOk r) (hcl : r.changes.length ≤ 900000) (ho : r.out.length ≤ 800000) : RepCall A 81 [rptr A, msgV m p] h r (r.turn m) Q0 := by
  refine RepCall.of [.agg (msgC m p)] Try.func81 (c := bodyOf Try.f81) (by kernel_rfl) Try.ntmps81 (fun _ _ => ⟨msgC_ok hp _ _, trivial⟩) (by simp) fun w x hR => ?_
  refine G.runX tabR_ok tm 0 100 (by kernel_rfl) ?_
  refine G.cond ((m.kind == 5) && !(m.view.tmod (Int.ofNat (r.n0 + 1)) == r.id)) (by kernel_rfl) (fun hc => ?_) (fun hc => ?_)
  · have hc' : m.kind = 5 ∧ r.primary m.view ≠ r.id := by simpa [Rep.primary, Rep.n] using hc
    refine G.runE tm 100 ?_
    exact G.retRep Try.func81 Try.results81 unitV (by kernel_rfl) r x (by kernel_rfl) (by kernel_rfl) (by simp only [Rep.turn, if_pos hc']) hR rfl
  have hc' : ¬ (m.kind = 5 ∧ r.primary m.view ≠ r.id) := by
    intro hx
    have : ((m.kind == 5) && !(m.view.tmod (Int.ofNat (r.n0 + 1)) == r.id)) = true := by simpa [Rep.primary, Rep.n] using hx
    rw [hc] at this; cases this
  have hfo : r.turn m = (r.turn1 m).turn2 m := by simp only [Rep.turn, if_neg hc']
  rw [hfo]
  refine G.runX tabR_ok tm 0 100 (by kernel_rfl) ?_
  refine G.join (decide (m.view > r.view)) (by kernel_rfl) (fun h' s => ∃ x', s = repMS A (r.turn1 m) x' (msgC m p) sl03 ∧ GLe h h' ∧ RepR h' (r.turn1 m) x') (fun hv J => ?_) (fun hv J => ?_) ?_
  · have hv' : m.view > r.view := by simpa using hv
    have h1 : r.turn1 m = r.begin m.view := by simp only [Rep.turn1, if_pos hv']
    rw [h1] at J ⊢
    refine G.runX tabR_ok tm 1 100 (by kernel_rfl) ?_
    refine G.callRep (f := 102) (svs := [.atom (.int .i64 m.view)]) (d := some 30) rfl (by kernel_rfl) (by kernel_rfl) (by kernel_rfl) A r (r.begin m.view) x ⟨by kernel_rfl, by kernel_rfl, by kernel_rfl, by kernel_rfl, by kernel_rfl⟩ [.int .i64 m.view] (by kernel_rfl) Q0 (f102_ok hr.n0 (by omega)) hR ?_
    rintro h2 x2 v2 hle2 hR2 rfl
    refine ⟨.tup [], unit_ok, ?_⟩
    refine G.runX tabR_ok tm 1 100 (by kernel_rfl) ?_
    exact G.back (by kernel_rfl) [0, 3] [0, 1, 2, 3, 4] 5 [0] (s' := repMS A (r.begin m.view) x2 (msgC m p) sl03) (by kernel_rfl) (by kernel_rfl) (J _ _ ⟨x2, rfl, hle2, hR2⟩)
  · have hv' : ¬ m.view > r.view := by simpa using hv
    have h1 : r.turn1 m = r := by simp only [Rep.turn1, if_neg hv']
    rw [h1] at J ⊢
    refine G.runX tabR_ok tm 1 100 (by kernel_rfl) ?_
    exact G.back (by kernel_rfl) [0, 3] [0, 1, 2, 3, 4] 5 [0] (s' := repMS A r x (msgC m p) sl03) (by kernel_rfl) (by kernel_rfl) (J _ _ ⟨x, rfl, GLe.refl _, hR⟩)
  obtain ⟨t1, t2, t3, t4, t5⟩ := turn1_same r m
  rintro h1 _ ⟨x1, rfl, hle1, hR1⟩
  generalize r.turn1 m = q at hR1 t1 t2 t3 t4 t5 ⊢
  have hqn : q.n0 ≤ 1000 := by rw [t3]; exact hr.n0
  have hqo : q.out.length ≤ 900000 := by have := hr.n0; omega
  have hqL : LogOk q.log := by rw [t2]; exact hr.log
  have hqcl : q.changes.length ≤ 900000 := t4.elim (fun e => by rw [e]; simp) (fun e => by rw [e]; exact hcl)
  have hqcs : ∀ z ∈ q.changes, LogOk z.2.log := t4.elim (fun e => by rw [e]; simp) (fun e => by rw [e]; exact hr.chs)
  have hqc : ∃ k : Nat, q.commit = (k : Int) ∧ k ≤ q.log.length := by rw [t1, t2]; exact hr.com
  clear t1 t2 t3 t4 t5
  have hp1 := hp.mono hle1
  refine G.runX tabR_ok tm 0 100 (by kernel_rfl) ?_
  refine G.cond ((m.kind == 4) && q.changing) (by kernel_rfl) (fun hc4 => ?_) (fun hc4 => ?_)
  · have hc4' : m.kind = 4 ∧ q.changing = true := by simpa using hc4
    refine G.runX tabR_ok tm 0 100 (by kernel_rfl) ?_
    refine G.draw [0, 4] tm (by kernel_rfl) (by kernel_rfl) ?_
    refine GD.autoT tabR_ok (by kernel_rfl) 8 (by kernel_rfl) (by kernel_rfl) ?_
    obtain ⟨os, hs, hrs⟩ := hR1.starts.update (P := Try.prog) (b := A.sb) Try.underlying132 Try.underlying3 m.frm (v := .bool true) (x := true) rfl
    refine GD.one 6 (by kernel_rfl) (GDop.semObj (m := unitS (Instr.mapUpdate 132 (.map (some A.sb)) (.int .i64 m.frm) (.bool true))) (d := none) (by kernel_rfl) (by kernel_rfl) (k := 2) (b := A.sb) (o := x1.s) (o' := os) (by kernel_rfl) (by kernel_rfl) undef (.atom .any) (fun _ _ => trivial) ⟨.skip, .inl ⟨rfl, rfl⟩, fun w hw => upd_skip (hrs w hw)⟩ ?_)
    refine GD.run (by kernel_rfl) 50 ?_
    refine GD.fin (by kernel_rfl) ?_
    refine G.runX tabR_ok tm 0 100 (by kernel_rfl) ?_
    refine G.callRep (f := 127) (svs := []) (d := some 48) rfl (by kernel_rfl) (by kernel_rfl) (by kernel_rfl) A { q with starts := setM q.starts m.frm true } (q.turn2 m) ⟨x1.lv, x1.ov, x1.oxs, x1.a, os, x1.c⟩ ⟨by kernel_rfl, by kernel_rfl, by kernel_rfl, by kernel_rfl, by kernel_rfl⟩ [] (by kernel_rfl) Q0
      ((f127_ok (r := { q with starts := setM q.starts m.frm true }) ⟨hqc, hqn, by show q.changes.length ≤ _; omega, hqL, hqcs⟩ hqo).to (by simp only [Rep.turn2, if_pos hc4'])) ⟨hR1.log, hR1.out, hR1.ov, hR1.acks, hs, hR1.changes⟩ ?_
    rintro h2 x2 v2 hle2 hR2 rfl
    refine ⟨.tup [], unit_ok, ?_⟩
    refine G.runX tabR_ok tm 0 100 (by kernel_rfl) ?_
    exact G.retRep Try.func81 Try.results81 unitV (by kernel_rfl) (q.turn2 m) x2 (by kernel_rfl) (by kernel_rfl) rfl hR2 rfl
  have hc4' : ¬ (m.kind = 4 ∧ q.changing = true) := by
    intro hx
    have : ((m.kind == 4) && q.changing) = true := by simpa using hx
    rw [hc4] at this; cases this
  refine G.runX tabR_ok tm 0 100 (by kernel_rfl) ?_
  refine G.cond ((m.kind == 5) && q.changing) (by kernel_rfl) (fun hc5 => ?_) (fun hc5 => ?_)
  · have hc5' : m.kind = 5 ∧ q.changing = true := by simpa using hc5
    refine G.runX tabR_ok tm 0 100 (by kernel_rfl) ?_
    refine G.callP (f := 77) (svs := [.atom (.sl p m.log.length)]) (d := some 61) (by kernel_rfl) [p] (by kernel_rfl) (by kernel_rfl) (by kernel_rfl) (fun h' v => EntsR h' v m.log) (fun w hw => f77_ok hp1 hl.2 (by have := hl.1; omega) hw) fun h2 p2 hp2 hle2 => ⟨.one (.atom (.sl p2 m.log.length)), fun N β _ => SlR.sv hp2 N β, ?_⟩
    refine G.runX tabR_ok tm 0 100 (by kernel_rfl) ?_
    refine G.draw [0, 4] tm (by kernel_rfl) (by kernel_rfl) ?_
    refine GD.autoT tabR_ok (by kernel_rfl) 8 (by kernel_rfl) (by kernel_rfl) ?_
    have hR2 := hR1.mono hle2
    obtain ⟨oc, hoc, hrc⟩ := hR2.changes.update (P := Try.prog) (b := A.cb) Try.underlying133 Try.underlying3 m.frm (v := msgV m p2) (x := m) ⟨p2, rfl, hp2⟩
    refine GD.one 7 (by kernel_rfl) (GDop.semObj (m := unitS (Instr.mapUpdate 133 (.map (some A.cb)) (.int .i64 m.frm) (msgV m p2))) (d := none) (by kernel_rfl) (by kernel_rfl) (k := 3) (b := A.cb) (o := x1.c) (o' := oc) (by kernel_rfl) (by kernel_rfl) undef (.atom .any) (fun _ _ => trivial) ⟨.skip, .inl ⟨rfl, rfl⟩, fun w hw => upd_skip (hrc w hw)⟩ ?_)
    refine GD.run (by kernel_rfl) 50 ?_
    refine GD.fin (by kernel_rfl) ?_
    refine G.runX tabR_ok tm 0 100 (by kernel_rfl) ?_
    obtain ⟨kc, hkc, hkl⟩ := hqc
    refine G.callRep (f := 128) (svs := []) (d := some 71) rfl (by kernel_rfl) (by kernel_rfl) (by kernel_rfl) A { q with changes := setM q.changes m.frm m } (q.turn2 m) ⟨x1.lv, x1.ov, x1.oxs, x1.a, x1.s, oc⟩ ⟨by kernel_rfl, by kernel_rfl, by kernel_rfl, by kernel_rfl, by kernel_rfl⟩ [] (by kernel_rfl) Q0
      ((f128_ok (r := { q with changes := setM q.changes m.frm m }) hkc hkl hqn hqo (by have := setM_len q.changes m.frm m; show (setM q.changes m.frm m).length ≤ _; omega) hqL (fun z hz => by
        rcases setM_mem hz with h | h
        · exact hqcs z h
        · rw [h]; exact hl)).to (by simp only [Rep.turn2, if_neg hc4', if_pos hc5'])) ⟨hR2.log, hR2.out, hR2.ov, hR2.acks, hR2.starts, hoc⟩ ?_
    rintro h3 x3 v3 hle3 hR3 rfl
    refine ⟨.tup [], unit_ok, ?_⟩
    refine G.runX tabR_ok tm 0 100 (by kernel_rfl) ?_
    exact G.retRep Try.func81 Try.results81 unitV (by kernel_rfl) (q.turn2 m) x3 (by kernel_rfl) (by kernel_rfl) rfl hR3 rfl
  have hc5' : ¬ (m.kind = 5 ∧ q.changing = true) := by
    intro hx
    have : ((m.kind == 5) && q.changing) = true := by simpa using hx
    rw [hc5] at this; cases this
  refine G.runX tabR_ok tm 0 100 (by kernel_rfl) ?_
  refine G.cond (m.kind == 5) (by kernel_rfl) (fun hk5 => ?_) (fun hk5 => ?_)
  · have hk5' : m.kind = 5 := by simpa using hk5
    refine G.runX tabR_ok tm 0 100 (by kernel_rfl) ?_
    refine G.draw [4] tm (by kernel_rfl) (by kernel_rfl) ?_
    refine GD.autoT tabR_ok (by kernel_rfl) 8 (by kernel_rfl) (by kernel_rfl) ?_
    refine GD.one 5 (by kernel_rfl) (GDop.callRep (f := 83) (svs := [.atom (.int .i64 m.frm), .agg (toldC 6 q.log.length q.commit x1.lv)]) (d := some 81) rfl (by kernel_rfl) (by kernel_rfl) (by kernel_rfl) (by kernel_rfl) (by kernel_rfl) A q (q.turn2 m) x1 ⟨by kernel_rfl, by kernel_rfl, by kernel_rfl, by kernel_rfl, by kernel_rfl⟩ [.int .i64 m.frm, toldV 6 q.log.length q.commit x1.lv] (by kernel_rfl) Q0
      ((f83_ok (r := q) (to := m.frm) (m := q.told 6) (p := x1.lv) hR1.log hqL (by omega)).to (by simp only [Rep.turn2, if_neg hc4', if_neg hc5', if_pos hk5'])) hR1 ?_)
    rintro h3 x3 v3 hle3 hR3 rfl
    refine ⟨.tup [], unit_ok, ?_⟩
    refine GD.run (by kernel_rfl) 50 ?_
    refine GD.fin (by kernel_rfl) ?_
    refine G.runX tabR_ok tm 0 100 (by kernel_rfl) ?_
    exact G.retRep Try.func81 Try.results81 unitV (by kernel_rfl) (q.turn2 m) x3 (by kernel_rfl) (by kernel_rfl) rfl hR3 rfl
  · have hk5' : ¬ m.kind = 5 := by simpa using hk5
    refine G.runX tabR_ok tm 0 100 (by kernel_rfl) ?_
    exact G.retRep Try.func81 Try.results81 unitV (by kernel_rfl) q x1 (by kernel_rfl) (by kernel_rfl) (by simp only [Rep.turn2, if_neg hc4', if_neg hc5', if_neg hk5']) hR1 rfl
end Go.Proofs.Ytkjahaoobdbffaa

/- The replica as plain data: what its methods leave. -/
namespace Go.Proofs.Ytkjahaoobdbffaa
open Go Go.RowKit
namespace Rep

theorem send_out (r : Rep) (to : Int) (m : Msg) : (r.send to m).out.length = r.out.length + 1 := by simp [Rep.send]
theorem say_out (r : Rep) (m : Msg) : (r.say m).out.length ≤ r.out.length + (r.n0 + 1) := by
  obtain ⟨o, h1, h2⟩ := say_same r m
  rw [h1]; exact h2
theorem begin_out (r : Rep) (v : Int) : (r.begin v).out.length ≤ r.out.length + (r.n0 + 1) := (begin_same r v).2.2.2.2.2.2
theorem decide_out (r : Rep) : r.decide_.out.length ≤ r.out.length + (r.n0 + 1) := by
  unfold decide_
  split
  · exact say_out _ _
  · omega
theorem see_out (r : Rep) : r.see.out.length ≤ r.out.length + (r.n0 + 1) := by
  unfold see
  split
  · split
    · rw [send_out]; show r.out.length + 1 ≤ _; omega
    · exact decide_out _
  · omega
theorem take_out (r : Rep) (m : Msg) : (r.take m).out.length ≤ r.out.length + 1 := by
  unfold take
  split
  · rw [send_out]; exact Nat.le_refl _
  · omega
theorem ackN_out (r : Rep) (k : Nat) : (r.ackN k).out = r.out := by
  induction k with
  | zero => rfl
  | succ k ih =>
    unfold ackN
    split
    · split
      · rfl
      · exact ih
    · rfl
theorem ack_out (r : Rep) (m : Msg) : (r.ack m).out = r.out := by
  unfold ack
  split
  · rfl
  · rw [ackN_out]; rfl
theorem follow_out (r : Rep) (m : Msg) : (r.follow m).out.length ≤ r.out.length + 2 := by
  unfold follow
  split
  · omega
  have h1 : (r.follow1 m).out = r.out := by unfold follow1; split <;> rfl
  have h2 : ((r.follow1 m).follow2 m).out = r.out := by unfold follow2; split <;> exact h1
  have h3 : (((r.follow1 m).follow2 m).follow3 m).out.length ≤ r.out.length + 1 := by
    unfold follow3; split
    · rw [send_out, h2]; omega
    · rw [h2]; omega
  unfold follow4
  split
  · omega
  · split
    · show (((r.follow1 m).follow2 m).follow3 m).out.length ≤ _; omega
    · rw [send_out]; show (((r.follow1 m).follow2 m).follow3 m).out.length + 1 ≤ _; omega
theorem turn_out (r : Rep) (m : Msg) : (r.turn m).out.length ≤ r.out.length + 2 * (r.n0 + 1) := by
  unfold turn
  split
  · omega
  obtain ⟨t1, t2, t3, t4, t5⟩ := turn1_same r m
  unfold turn2
  split
  · refine Nat.le_trans (see_out _) ?_; show (r.turn1 m).out.length + ((r.turn1 m).n0 + 1) ≤ _; omega
  · split
    · refine Nat.le_trans (decide_out _) ?_; show (r.turn1 m).out.length + ((r.turn1 m).n0 + 1) ≤ _; omega
    · split
      · rw [send_out]; omega
      · omega
theorem hear_out (r : Rep) (m : Msg) : (r.hear m).out.length ≤ r.out.length + (2 * (r.n0 + 1) + 2) := by
  unfold hear
  split
  · have := follow_out r m; omega
  split
  · rw [ack_out]; omega
  split
  · have := turn_out r m; omega
  split
  · split
    · have := take_out r m; omega
    · omega
  split
  · split
    · rw [send_out]; omega
    · omega
  split
  · split
    · have := take_out r m; omega
    · omega
  · omega
end Rep
end Go.Proofs.Ytkjahaoobdbffaa

/- The base of this seat's proofs, twenty-eighth part: a guarded call of a function that only reads a known block, inside a region of open order. -/
namespace Go.Proofs.Ytkjahaoobdbffaa
open Go Go.RowKit

theorem GDop.callGRo {C : Ctx} {h0 h : GH} {ops : Array Oper} {k : List Item} {ks : List Nat} {d : DCfg} {i : Nat} {f : FuncId} {svs : List SV1} {dd tg : Nat} {want : Bool} {kb : Nat} (hc : callAtD ops d i = some ⟨f, .atom (.ptr kb 0) :: svs, some dd, some (tg, want)⟩) {bi : Option Nat} {T : TypeId} {cs : List Cell} (hbb : bx kb d.s.boxes = some ⟨bi, .lit T cs⟩) (vals : List Value) (v : Value) (hv : svVals svs = some vals) (he : enters C.P f = true)
    (hd : (Nat.blt dd C.n && Nat.blt tg C.n && !(Nat.beq tg dd)) = true) 
    (hcall : guardSays d.s (some (tg, want)) (∀ rb h' w, GLe h h' → RoR h' rb cs → Sub h' w → Calls C.P f (rdp rb :: vals).toArray w fun e w' => e = .returned v ∧ Below w.heap.size w w')) (hk : GD C h0 h ops k ks (afterN ops d i d.s (.gd tg want (.ofV v)))) : GDop C h0 h ops k ks d i := by
  intro β w tmps L hS hL hlive hle
  obtain ⟨fuel, listed, s⟩ := d
  simp only [Bool.and_eq_true, Bool.not_eq_true'] at hd
  have htg : tg < C.n := Nat.le_of_ble_eq_true hd.1.2
  have hne : dd ≠ tg := fun e => by have := hd.2; rw [e, Nat.beq_refl] at this; cases this
  unfold callAtD at hc
  simp only at hc hS hcall hbb
  split at hc
  · rename_i o hi
    simp only [afterN, nextD, hi, Option.bind_some] at hk
    unfold callOf at hc
    split at hc
    · rename_i x args types hop
      split at hc
      · split at hc
        · simp at hc
        · simp at hc
      · rename_i j want' hg
        split at hc
        · rename_i tg' hj
          split at hc
          · rename_i f' a b' vs hx hv'
            simp only [Option.some.injEq, CallView.mk.injEq, Prod.mk.injEq] at hc
            obtain ⟨rfl, hsv, hdst, rfl, rfl⟩ := hc
            have hwi := wanted_of (tmps := tmps) hg hj (by rw [hS.size]; exact htg)
            by_cases hwt : Region.wanted o (yielded ops tmps) = true
            · have htrue := hwi.1 hwt
              obtain ⟨l, hl, hrun⟩ := run_callS hS (chain_ok hS 4 tg' want' htrue) hop hx hv' he
              refine wpOp_call hi hwt hrun ?_
              rw [hsv] at hl
              obtain ⟨rfl, hr1, hr2⟩ := rdArgs hS hbb hv hl
              refine (guardSays_use hS hcall htrue (β kb) _ w hr2 hr1 (subSelf w)).mono ?_
              rintro e w' ⟨rfl, h2⟩
              refine ⟨v, rfl, ?_⟩
              have hg' := Grow.of_below hS.sub h2
              have hL' : L = ks.map (fun x => (β x, w'.heap[β x]?)) := by
                rw [hL]
                refine List.map_congr_left fun x hx => ?_
                obtain ⟨b, hb⟩ := hlive x hx
                rw [h2.block _ (hS.box x b hb).lt]
              refine ⟨by rw [hL']; exact Stays.of_sim (hS.grow hg') hle ks, ?_⟩
              rw [act_put, hdst]
              rw [hdst] at hk
              refine hk β w' (putT tmps (some dd) v) L ((hS.grow hg').put (Nat.le_of_ble_eq_true hd.1.1) (.inl ⟨?_, SV1ofV_ok _ _ _⟩)) hL' hlive hle
              rw [getD_set_other hne]; exact htrue
            · have hfalse : tmps.getD tg' undef ≠ .bool want' := fun e => hwt (hwi.2 e)
              refine wpOp_unwanted hi (by simpa using hwt) ⟨by rw [hL]; exact Stays.of_sim hS hle ks, ?_⟩
              rw [act_put, hdst]
              rw [hdst] at hk
              refine hk β w (putT tmps (some dd) undef) L (hS.put (Nat.le_of_ble_eq_true hd.1.1) (.inr ⟨?_, rfl⟩)) hL hlive hle
              rw [getD_set_other hne]; exact hfalse
          · simp at hc
        · simp at hc
    · simp at hc
  · simp at hc
end Go.Proofs.Ytkjahaoobdbffaa

/- The replica in memory: a delivery. -/
namespace Go.Proofs.Ytkjahaoobdbffaa
open Go Go.RowKit
attribute [local irreducible] G GD GDop

theorem G.meet {C : Ctx} {h : GH} {c : Cfg} (j : Nat) (Φ : GH → S → Prop) (hm : (∀ h' s, Φ h' s → G C h' ⟨c.todo.drop j, s⟩) → G C h c) (hj : ∀ h' s, Φ h' s → G C h' ⟨c.todo.drop j, s⟩) : G C h c := hm hj

def Rep.deliver (r : Rep) (m : Msg) : Rep × List Msg × Int :=
  if r.refuses m = true then (r, [], 10) else if m.view < r.view then (r, [], 0) else ({ r.hear m with out := [] }, (r.hear m).out, 0)

/-- Messages and a code. -/
def SentQ (out : List Msg) (code : Int) : GH → Value → Prop := fun h' v => ∃ s, v = .tuple #[s, .int .i64 code] ∧ SlR h' 8 (MsgR h') s out

def refB (r : Rep) (m : Msg) : Bool := ((!(msgRight m) || !(m.to == r.id)) || m.frm == r.id) || decide (m.frm ≥ Int.ofNat (r.n0 + 1))
theorem refB_eq (r : Rep) (m : Msg) : refB r m = r.refuses m := by
  unfold refB Rep.refuses Rep.n
  congr 1
  congr 1
  congr 1
  cases h : m.to == r.id <;> simp_all

set_option maxHeartbeats 8000000 in
theorem f27_ok {A : Adr} {h : GH} {r : Rep} {m : Msg} {p : Value} (hp : EntsR h p m.log) (hl : LogOk m.log) (hr : RepOk r) (hcl : r.changes.length ≤ 900000) (hal : r.acks.length ≤ 900000) (ho : r.out.length ≤ 700000) :
    RepCall A 27 [rptr A, msgV m p] h r (r.deliver m).1 (SentQ (r.deliver m).2.1 (r.deliver m).2.2) := by
  refine RepCall.of [.agg (msgC m p)] Try.func27 (c := bodyOf Try.f27) (by kernel_rfl) Try.ntmps27 (fun _ _ => ⟨msgC_ok hp _ _, trivial⟩) (by simp) fun w x hR => ?_
  refine G.runX tabR_ok tm 0 100 (by kernel_rfl) ?_
  refine G.draw [0, 4] tm (by kernel_rfl) (by kernel_rfl) ?_
  refine GD.run (by kernel_rfl) 50 ?_
  refine GD.one 1 (by kernel_rfl) (GDop.callV (f := 40) (svs := [.agg (msgC m p)]) (dst := some 8) (by kernel_rfl) [msgV m p] (.bool (msgRight m)) (by kernel_rfl) (by kernel_rfl) (by kernel_rfl) (by kernel_rfl) (fun w hw => f40_ok hp hw) ?_)
  refine GD.autoT tabR_ok (by kernel_rfl) 8 (by kernel_rfl) (by kernel_rfl) ?_
  refine GD.fin (by kernel_rfl) ?_
  refine G.runX tabR_ok tm 0 100 (by kernel_rfl) ?_
  refine G.cond (refB r m) (by kernel_rfl) (fun hc => ?_) (fun hc => ?_)
  · rw [refB_eq] at hc
    refine G.runE tm 100 ?_
    exact G.retRep Try.func27 Try.results27 (.tuple #[nilS, .int .i64 10]) (by kernel_rfl) r x (by kernel_rfl) (by kernel_rfl) (by simp only [Rep.deliver, hc, if_true]) hR (by simp only [Rep.deliver, hc, if_true]; exact ⟨nilS, rfl, SlR.nil⟩)
  rw [refB_eq] at hc
  refine G.runX tabR_ok tm 0 100 (by kernel_rfl) ?_
  refine G.cond (decide (m.view < r.view)) (by kernel_rfl) (fun hv => ?_) (fun hv => ?_)
  · have hv' := of_decide_eq_true hv
    refine G.runE tm 100 ?_
    exact G.retRep Try.func27 Try.results27 (.tuple #[nilS, .int .i64 0]) (by kernel_rfl) r x (by kernel_rfl) (by kernel_rfl) (by simp only [Rep.deliver, hc, Bool.false_eq_true, if_false, if_pos hv']) hR (by simp only [Rep.deliver, hc, Bool.false_eq_true, if_false, if_pos hv']; exact ⟨nilS, rfl, SlR.nil⟩)
  have hv' := of_decide_eq_false hv
  have hd : r.deliver m = ({ r.hear m with out := [] }, (r.hear m).out, 0) := by simp only [Rep.deliver, hc, Bool.false_eq_true, if_false, if_neg hv']
  rw [hd]
  refine G.runX tabR_ok tm 0 100 (by kernel_rfl) ?_
  refine G.meet 3 (fun h' s => ∃ x', s = repMS A (r.hear m) x' (msgC m p) sl03 ∧ GLe h h' ∧ RepR h' (r.hear m) x') (fun J => ?_) ?_
  · obtain ⟨kc, hkc, hkl⟩ := hr.com
    refine G.cond (m.kind == 1) (by kernel_rfl) (fun hk => ?_) (fun hk => ?_)
    · have hk' : m.kind = 1 := by simpa using hk
      refine G.runX tabR_ok tm 1 100 (by kernel_rfl) ?_
      refine G.cond (m.kind == 1) (by kernel_rfl) (fun _ => ?_) (fun hx => by rw [hk] at hx; cases hx)
      refine G.runX tabR_ok tm 1 100 (by kernel_rfl) ?_
      refine G.callRep (f := 79) (svs := [.agg (msgC m p)]) (d := some 69) rfl (by kernel_rfl) (by kernel_rfl) (by kernel_rfl) A r (r.hear m) x ⟨by kernel_rfl, by kernel_rfl, by kernel_rfl, by kernel_rfl, by kernel_rfl⟩ [msgV m p] (by kernel_rfl) Q0 (RepCall.to (f79_ok hp hl (by have := hr.log.1; omega) (by omega)) (by simp [Rep.hear, hk'])) hR ?_
      rintro h2 x2 v2 hle2 hR2 rfl
      refine ⟨.tup [], unit_ok, ?_⟩
      refine G.runX tabR_ok tm 1 100 (by kernel_rfl) ?_
      exact G.back (by kernel_rfl) [0, 3] [0, 1, 2, 3, 4] 5 [0] (s' := repMS A (r.hear m) x2 (msgC m p) sl03) (by kernel_rfl) (by kernel_rfl) (J _ _ ⟨x2, rfl, hle2, hR2⟩)
    have n1 : ¬ m.kind = 1 := by simpa using hk
    clear hk
    refine G.runX tabR_ok tm 1 100 (by kernel_rfl) ?_
    refine G.cond (m.kind == 3) (by kernel_rfl) (fun hk => ?_) (fun hk => ?_)
    · have hk' : m.kind = 3 := by simpa using hk
      refine G.runX tabR_ok tm 1 100 (by kernel_rfl) ?_
      refine G.callRep (f := 79) (svs := [.agg (msgC m p)]) (d := some 69) rfl (by kernel_rfl) (by kernel_rfl) (by kernel_rfl) A r (r.hear m) x ⟨by kernel_rfl, by kernel_rfl, by kernel_rfl, by kernel_rfl, by kernel_rfl⟩ [msgV m p] (by kernel_rfl) Q0 (RepCall.to (f79_ok hp hl (by have := hr.log.1; omega) (by omega)) (by simp [Rep.hear, hk'])) hR ?_
      rintro h2 x2 v2 hle2 hR2 rfl
      refine ⟨.tup [], unit_ok, ?_⟩
      refine G.runX tabR_ok tm 1 100 (by kernel_rfl) ?_
      exact G.back (by kernel_rfl) [0, 3] [0, 1, 2, 3, 4] 5 [0] (s' := repMS A (r.hear m) x2 (msgC m p) sl03) (by kernel_rfl) (by kernel_rfl) (J _ _ ⟨x2, rfl, hle2, hR2⟩)
    have n3 : ¬ m.kind = 3 := by simpa using hk
    clear hk
    refine G.runX tabR_ok tm 1 100 (by kernel_rfl) ?_
    refine G.cond (m.kind == 2) (by kernel_rfl) (fun hk => ?_) (fun hk => ?_)
    · have hk' : m.kind = 2 := by simpa using hk
      refine G.runX tabR_ok tm 1 100 (by kernel_rfl) ?_
      refine G.callRep (f := 80) (svs := [.agg (msgC m p)]) (d := some 74) rfl (by kernel_rfl) (by kernel_rfl) (by kernel_rfl) A r (r.hear m) x ⟨by kernel_rfl, by kernel_rfl, by kernel_rfl, by kernel_rfl, by kernel_rfl⟩ [msgV m p] (by kernel_rfl) Q0 (RepCall.to (f80_ok hp (hr.com.imp fun k h => h.1) (by have := hr.log.1; omega) hr.n0 (by omega)) (by simp [Rep.hear, hk'])) hR ?_
      rintro h2 x2 v2 hle2 hR2 rfl
      refine ⟨.tup [], unit_ok, ?_⟩
      refine G.runX tabR_ok tm 1 100 (by kernel_rfl) ?_
      exact G.back (by kernel_rfl) [0, 3] [0, 1, 2, 3, 4] 5 [0] (s' := repMS A (r.hear m) x2 (msgC m p) sl03) (by kernel_rfl) (by kernel_rfl) (J _ _ ⟨x2, rfl, hle2, hR2⟩)
    have n2 : ¬ m.kind = 2 := by simpa using hk
    clear hk
    refine G.runX tabR_ok tm 1 100 (by kernel_rfl) ?_
    refine G.cond (m.kind == 4) (by kernel_rfl) (fun hk => ?_) (fun hk => ?_)
    · have hk' : m.kind = 4 := by simpa using hk
      refine G.runX tabR_ok tm 1 100 (by kernel_rfl) ?_
      refine G.cond (m.kind == 4) (by kernel_rfl) (fun _ => ?_) (fun hx => by rw [hk] at hx; cases hx)
      refine G.runX tabR_ok tm 1 100 (by kernel_rfl) ?_
      refine G.callRep (f := 81) (svs := [.agg (msgC m p)]) (d := some 80) rfl (by kernel_rfl) (by kernel_rfl) (by kernel_rfl) A r (r.hear m) x ⟨by kernel_rfl, by kernel_rfl, by kernel_rfl, by kernel_rfl, by kernel_rfl⟩ [msgV m p] (by kernel_rfl) Q0 (RepCall.to (f81_ok hp hl hr hcl (by omega)) (by simp [Rep.hear, hk'])) hR ?_
      rintro h2 x2 v2 hle2 hR2 rfl
      refine ⟨.tup [], unit_ok, ?_⟩
      refine G.runX tabR_ok tm 1 100 (by kernel_rfl) ?_
      exact G.back (by kernel_rfl) [0, 3] [0, 1, 2, 3, 4] 5 [0] (s' := repMS A (r.hear m) x2 (msgC m p) sl03) (by kernel_rfl) (by kernel_rfl) (J _ _ ⟨x2, rfl, hle2, hR2⟩)
    have n4 : ¬ m.kind = 4 := by simpa using hk
    clear hk
    refine G.runX tabR_ok tm 1 100 (by kernel_rfl) ?_
    refine G.cond (m.kind == 5) (by kernel_rfl) (fun hk => ?_) (fun hk => ?_)
    · have hk' : m.kind = 5 := by simpa using hk
      refine G.runX tabR_ok tm 1 100 (by kernel_rfl) ?_
      refine G.callRep (f := 81) (svs := [.agg (msgC m p)]) (d := some 80) rfl (by kernel_rfl) (by kernel_rfl) (by kernel_rfl) A r (r.hear m) x ⟨by kernel_rfl, by kernel_rfl, by kernel_rfl, by kernel_rfl, by kernel_rfl⟩ [msgV m p] (by kernel_rfl) Q0 (RepCall.to (f81_ok hp hl hr hcl (by omega)) (by simp [Rep.hear, hk'])) hR ?_
      rintro h2 x2 v2 hle2 hR2 rfl
      refine ⟨.tup [], unit_ok, ?_⟩
      refine G.runX tabR_ok tm 1 100 (by kernel_rfl) ?_
      exact G.back (by kernel_rfl) [0, 3] [0, 1, 2, 3, 4] 5 [0] (s' := repMS A (r.hear m) x2 (msgC m p) sl03) (by kernel_rfl) (by kernel_rfl) (J _ _ ⟨x2, rfl, hle2, hR2⟩)
    have n5 : ¬ m.kind = 5 := by simpa using hk
    clear hk
    refine G.runX tabR_ok tm 1 100 (by kernel_rfl) ?_
    refine G.cond (m.kind == 6) (by kernel_rfl) (fun hk => ?_) (fun hk => ?_)
    · have hk' : m.kind = 6 := by simpa using hk
      refine G.runX tabR_ok tm 1 100 (by kernel_rfl) ?_
      refine G.cond ((m.frm == m.view.tmod (Int.ofNat (r.n0 + 1))) && (decide (m.view > r.view) || r.changing)) (by kernel_rfl) (fun hb => ?_) (fun hb => ?_)
      · have hb' : m.frm = r.primary m.view ∧ r.newer m = true := by simpa [Rep.primary, Rep.n, Rep.newer] using hb
        refine G.runX tabR_ok tm 1 100 (by kernel_rfl) ?_
        refine G.callRep (f := 82) (svs := [.agg (msgC m p)]) (d := some 95) rfl (by kernel_rfl) (by kernel_rfl) (by kernel_rfl) A r (r.hear m) x ⟨by kernel_rfl, by kernel_rfl, by kernel_rfl, by kernel_rfl, by kernel_rfl⟩ [msgV m p] (by kernel_rfl) Q0 (RepCall.to (f82_ok hp hl hkc hkl (by omega)) (by simp only [Rep.hear, hk', if_pos hb']; rfl)) hR ?_
        rintro h2 x2 v2 hle2 hR2 rfl
        refine ⟨.tup [], unit_ok, ?_⟩
        refine G.runX tabR_ok tm 1 100 (by kernel_rfl) ?_
        exact G.back (by kernel_rfl) [0, 3] [0, 1, 2, 3, 4] 5 [0] (s' := repMS A (r.hear m) x2 (msgC m p) sl03) (by kernel_rfl) (by kernel_rfl) (J _ _ ⟨x2, rfl, hle2, hR2⟩)
      · have hb' : ¬ (m.frm = r.primary m.view ∧ r.newer m = true) := by
          intro hx
          have : ((m.frm == m.view.tmod (Int.ofNat (r.n0 + 1))) && (decide (m.view > r.view) || r.changing)) = true := by simpa [Rep.primary, Rep.n, Rep.newer] using hx
          rw [hb] at this; cases this
        refine G.runX tabR_ok tm 1 100 (by kernel_rfl) ?_
        have e0 : r.hear m = r := by simp only [Rep.hear, hk', if_neg hb']; rfl
        exact G.back (by kernel_rfl) [0, 3] [0, 1, 2, 3, 4] 5 [0] (s' := repMS A r x (msgC m p) sl03) (by kernel_rfl) (by kernel_rfl) (J _ _ ⟨x, by rw [e0], GLe.refl _, by rw [e0]; exact hR⟩)
    have n6 : ¬ m.kind = 6 := by simpa using hk
    clear hk
    refine G.runX tabR_ok tm 1 100 (by kernel_rfl) ?_
    refine G.cond (m.kind == 7) (by kernel_rfl) (fun hk => ?_) (fun hk => ?_)
    · have hk' : m.kind = 7 := by simpa using hk
      refine G.runX tabR_ok tm 1 100 (by kernel_rfl) ?_
      refine G.cond ((m.view == r.view) && !r.changing) (by kernel_rfl) (fun hb => ?_) (fun hb => ?_)
      · have hb' : m.view = r.view ∧ r.changing = false := by simpa using hb
        refine G.runX tabR_ok tm 1 100 (by kernel_rfl) ?_
        refine G.draw [4] tm (by kernel_rfl) (by kernel_rfl) ?_
        refine GD.autoT tabR_ok (by kernel_rfl) 8 (by kernel_rfl) (by kernel_rfl) ?_
        refine GD.one 5 (by kernel_rfl) (GDop.callRep (f := 83) (svs := [.atom (.int .i64 m.frm), .agg (toldC 8 r.log.length r.commit x.lv)]) (d := some 118) rfl (by kernel_rfl) (by kernel_rfl) (by kernel_rfl) (by kernel_rfl) (by kernel_rfl) A r (r.hear m) x ⟨by kernel_rfl, by kernel_rfl, by kernel_rfl, by kernel_rfl, by kernel_rfl⟩ [.int .i64 m.frm, toldV 8 r.log.length r.commit x.lv] (by kernel_rfl) Q0
          ((f83_ok (r := r) (to := m.frm) (m := r.told 8) (p := x.lv) hR.log hr.log (by omega)).to (by simp only [Rep.hear, hk', if_pos hb']; rfl)) hR ?_)
        rintro h2 x2 v2 hle2 hR2 rfl
        refine ⟨.tup [], unit_ok, ?_⟩
        refine GD.run (by kernel_rfl) 50 ?_
        refine GD.fin (by kernel_rfl) ?_
        refine G.runX tabR_ok tm 1 100 (by kernel_rfl) ?_
        exact G.back (by kernel_rfl) [0, 3] [0, 1, 2, 3, 4] 5 [0] (s' := repMS A (r.hear m) x2 (msgC m p) sl03) (by kernel_rfl) (by kernel_rfl) (J _ _ ⟨x2, rfl, hle2, hR2⟩)
      · have hb' : ¬ (m.view = r.view ∧ r.changing = false) := by
          intro hx
          have : ((m.view == r.view) && !r.changing) = true := by simpa using hx
          rw [hb] at this; cases this
        refine G.runX tabR_ok tm 1 100 (by kernel_rfl) ?_
        have e0 : r.hear m = r := by simp only [Rep.hear, hk', if_neg hb']; rfl
        exact G.back (by kernel_rfl) [0, 3] [0, 1, 2, 3, 4] 5 [0] (s' := repMS A r x (msgC m p) sl03) (by kernel_rfl) (by kernel_rfl) (J _ _ ⟨x, by rw [e0], GLe.refl _, by rw [e0]; exact hR⟩)
    have n7 : ¬ m.kind = 7 := by simpa using hk
    clear hk
    refine G.runX tabR_ok tm 1 100 (by kernel_rfl) ?_
    refine G.cond (m.kind == 8) (by kernel_rfl) (fun hk => ?_) (fun hk => ?_)
    · have hk' : m.kind = 8 := by simpa using hk
      refine G.runX tabR_ok tm 1 100 (by kernel_rfl) ?_
      refine G.draw [0, 4] tm (by kernel_rfl) (by kernel_rfl) ?_
      refine GD.runT tabR_ok (by kernel_rfl) 50 ?_
      refine GD.one 16 (by kernel_rfl) (GDop.callGRo (f := 85) (svs := [.atom (.sl p m.log.length)]) (dd := 137) (tg := 133) (want := false) (kb := 0) (by kernel_rfl) (bi := some A.rb) (T := 135) (cs := repC A r x) (by kernel_rfl) [p] (.bool (r.extends_ m.log)) (by kernel_rfl) (by kernel_rfl) (by kernel_rfl) (says_of fun rb h' w hle hr hs => by
        have e : r.extends_ m.log = (decide (r.log.length < m.log.length) && decide (m.log.take r.log.length = r.log)) := by simp [Rep.extends_, Rep.len]
        rw [e]
        exact f85_ok hr (v := x.lv) rfl (hR.log.mono hle) (hp.mono hle) hs) ?_)
      refine GD.runT tabR_ok (by kernel_rfl) 50 ?_
      refine GD.fin (by kernel_rfl) ?_
      refine G.runX tabR_ok tm 1 100 (by kernel_rfl) ?_
      refine G.cond (!(m.view.tmod (Int.ofNat (r.n0 + 1)) == r.id) && ((decide (m.view > r.view) || r.changing) || r.extends_ m.log)) (by kernel_rfl) (fun hb => ?_) (fun hb => ?_)
      · have hb' : r.primary m.view ≠ r.id ∧ (r.newer m = true ∨ r.extends_ m.log = true) := by simpa [Rep.primary, Rep.n, Rep.newer] using hb
        refine G.runX tabR_ok tm 1 100 (by kernel_rfl) ?_
        refine G.callRep (f := 82) (svs := [.agg (msgC m p)]) (d := some 142) rfl (by kernel_rfl) (by kernel_rfl) (by kernel_rfl) A r (r.hear m) x ⟨by kernel_rfl, by kernel_rfl, by kernel_rfl, by kernel_rfl, by kernel_rfl⟩ [msgV m p] (by kernel_rfl) Q0 (RepCall.to (f82_ok hp hl hkc hkl (by omega)) (by simp only [Rep.hear, hk', if_pos hb']; rfl)) hR ?_
        rintro h2 x2 v2 hle2 hR2 rfl
        refine ⟨.tup [], unit_ok, ?_⟩
        refine G.runX tabR_ok tm 1 100 (by kernel_rfl) ?_
        exact G.back (by kernel_rfl) [0, 3] [0, 1, 2, 3, 4] 5 [0] (s' := repMS A (r.hear m) x2 (msgC m p) sl03) (by kernel_rfl) (by kernel_rfl) (J _ _ ⟨x2, rfl, hle2, hR2⟩)
      · have hb' : ¬ (r.primary m.view ≠ r.id ∧ (r.newer m = true ∨ r.extends_ m.log = true)) := by
          intro hx
          have : (!(m.view.tmod (Int.ofNat (r.n0 + 1)) == r.id) && ((decide (m.view > r.view) || r.changing) || r.extends_ m.log)) = true := by simpa [Rep.primary, Rep.n, Rep.newer] using hx
          rw [hb] at this; cases this
        refine G.runX tabR_ok tm 1 100 (by kernel_rfl) ?_
        have e0 : r.hear m = r := by simp only [Rep.hear, hk', if_neg hb']; rfl
        exact G.back (by kernel_rfl) [0, 3] [0, 1, 2, 3, 4] 5 [0] (s' := repMS A r x (msgC m p) sl03) (by kernel_rfl) (by kernel_rfl) (J _ _ ⟨x, by rw [e0], GLe.refl _, by rw [e0]; exact hR⟩)
    have n8 : ¬ m.kind = 8 := by simpa using hk
    refine G.runX tabR_ok tm 1 100 (by kernel_rfl) ?_
    have e0 : r.hear m = r := by simp [Rep.hear, n1, n2, n3, n4, n5, n6, n7, n8]
    exact G.back (by kernel_rfl) [0, 3] [0, 1, 2, 3, 4] 5 [0] (s' := repMS A r x (msgC m p) sl03) (by kernel_rfl) (by kernel_rfl) (J _ _ ⟨x, by rw [e0], GLe.refl _, by rw [e0]; exact hR⟩)
  · rintro h1 _ ⟨x1, rfl, hle1, hR1⟩
    refine G.runX tabR_ok tm 0 100 (by kernel_rfl) ?_
    refine G.callRep (f := 86) (svs := []) (d := some 144) rfl (by kernel_rfl) (by kernel_rfl) (by kernel_rfl) A (r.hear m) { r.hear m with out := [] } x1 ⟨by kernel_rfl, by kernel_rfl, by kernel_rfl, by kernel_rfl, by kernel_rfl⟩ [] (by kernel_rfl) _ (f86_ok (by have := Rep.hear_out r m; have := hr.n0; omega)) hR1 ?_
    rintro h2 x2 v2 hle2 hR2 hv2
    obtain ⟨ao, cp, hv2'⟩ := hv2.isSlice
    refine ⟨.one (.atom (.sl v2 (r.hear m).out.length)), fun N β _ => ⟨rfl, ao, cp, hv2'⟩, ?_⟩
    refine G.runE tm 100 ?_
    exact G.retRep Try.func27 Try.results27 (.tuple #[v2, .int .i64 0]) (by kernel_rfl) { r.hear m with out := [] } x2 (by kernel_rfl) (by kernel_rfl) rfl hR2 ⟨v2, rfl, hv2⟩
end Go.Proofs.Ytkjahaoobdbffaa

/- The replica in memory: what was had before. -/
namespace Go.Proofs.Ytkjahaoobdbffaa
open Go Go.RowKit
attribute [local irreducible] G GD GDop

theorem drop_cons {α : Type} {l : List α} {i : Nat} {x : α} (h : l[i]? = some x) : l.drop i = x :: l.drop (i + 1) := by
  obtain ⟨h1, h2⟩ := List.getElem?_eq_some_iff.1 h
  rw [List.drop_eq_getElem_cons h1, h2]

section ro
variable {h : GH} {w : World} {rb : Nat} {cs : List Cell}

set_option maxHeartbeats 4000000 in
theorem f98_ok {c : Int} {v p d : Value} {l : List Ent} {e : Ent} (hr : RoR h rb cs) (h5 : cs[5]? = some (.int .i64 c)) (h7 : cs[7]? = some (.sl v l.length)) (hv : EntsR h v l) (hL : l.length ≤ 1000000) (hp : SlR h 5 RulR p e.put) (hd : SlR h 1 IntR d e.drop) (hs : Sub h w) :
    Calls Try.prog 98 #[.pointer (some ⟨rb, 0, none⟩), entV e p d] w fun e' w' => e' = .returned (.int .i64 (Rep.hadL c e 0 l 0)) ∧ Below w.heap.size w w' := by
  obtain ⟨hf, hrun⟩ := hr.sl h7
  refine Calls.enter [.atom (.raw (.pointer (some ⟨rb, 0, none⟩))), .agg (entC e p d)] Try.func98 (c := bodyOf Try.f98) (by kernel_rfl) Try.ntmps98 ⟨⟨rfl, rfl⟩, entC_ok hp hd _ _, trivial⟩ (by simp) hs ?_
  refine G.runE tm 100 ?_
  refine G.sem (m := valS (Instr.loadAt 22 (.pointer (some ⟨rb, 7, none⟩)))) (d := some 12) (g := none) (by kernel_rfl) (by kernel_rfl) v (.atom (.sl v l.length)) (sl_sv _ _ hf) (says_of fun w hw => run_valS (hrun w hw)) ?_
  refine G.runE tm 100 ?_
  refine G.loop (α := Nat × Int) (fun y => ⟨[(0, .one (.atom (.raw (.pointer (some ⟨rb, 0, none⟩))))), (3, .one (.atom (.ptr 0 0))), (4, .one (.atom (.int .i64 0))), (5, .one (.atom (.int .i64 y.2))), (12, .one (.atom (.sl v l.length))), (13, .one (.atom (.int .i64 l.length))), (14, .one (.atom (.int .i64 (y.1 : Nat))))], [(0, ⟨none, .lit 34 (entC e p d)⟩)], 1, []⟩)
    (fun y g => g = h ∧ y.1 ≤ l.length ∧ Rep.hadL c e 0 l 0 = Rep.hadL c e y.1 (l.drop y.1) y.2) (fun y => l.length - y.1) (0, 0) [0, 3, 4, 5, 12, 13, 14] [0] 1 [] (by kernel_rfl) (by kernel_rfl) (by kernel_rfl) ⟨rfl, Nat.zero_le _, rfl⟩ ?_
  rintro ⟨i, out⟩ g ⟨rfl, hi, hst⟩ IH
  simp only at hi hst
  refine G.runE tm 100 ?_
  refine G.cond (decide ((i : Int) < (l.length : Int))) (by kernel_rfl) (fun hb => ?_) (fun hb => ?_)
  · have hlt : i < l.length := by simpa using hb
    obtain ⟨x, hx⟩ := get_of_lt hlt
    rw [drop_cons hx] at hst
    simp only [Rep.hadL] at hst
    refine G.runE tm 100 ?_
    refine G.idx (d1 := some 17) (g := none) (T := 22) (E := 34) hv Try.underlying22 z34 hlt (by kernel_rfl) (by kernel_rfl) ?_
    refine G.elEnt (d1 := some 18) (g := none) (E := 34) hv z34 u34 hx (by kernel_rfl) (by kernel_rfl) fun px dx hpx hdx => ?_
    refine G.runE tm 100 ?_
    refine G.cond (!(x.client == e.client) || decide (x.request < e.request)) (by kernel_rfl) (fun h1 => ?_) (fun h1 => ?_)
    · have h1' : x.client ≠ e.client ∨ x.request < e.request := by simpa using h1
      rw [if_pos h1'] at hst
      refine G.runE tm 100 ?_
      refine G.reint (k := .i64) 14 (by kernel_rfl) (wrap_succ hlt (by omega)) ?_
      exact G.back (by kernel_rfl) [0, 3, 4, 5, 12, 13, 14] [0] 1 [] (by kernel_rfl) (by kernel_rfl) (IH (i + 1, out) _ ⟨rfl, hlt, hst⟩ (by simp only; omega))
    · have h1' : ¬ (x.client ≠ e.client ∨ x.request < e.request) := by
        intro hx
        have : (!(x.client == e.client) || decide (x.request < e.request)) = true := by simpa using hx
        rw [h1] at this; cases this
      rw [if_neg h1'] at hst
      refine G.runE tm 100 ?_
      refine G.sem (m := valS (Instr.loadAt 3 (.pointer (some ⟨rb, 5, none⟩)))) (d := some 44) (g := some (38, false)) (by kernel_rfl) (by kernel_rfl) (.int .i64 c) (.atom (.int .i64 c)) (fun _ _ => rfl) (says_of fun w hw => run_valS (hr.int h5 w hw)) ?_
      refine G.runE tm 100 ?_
      refine G.cond (decide (x.request > e.request) || decide ((i : Int) < c)) (by kernel_rfl) (fun h2 => ?_) (fun h2 => ?_)
      · have h2' : x.request > e.request ∨ (i : Int) < c := by simpa using h2
        rw [if_pos h2'] at hst
        refine G.runE tm 100 ?_
        exact G.ret Try.func98 Try.results98 (.int .i64 31) (by kernel_rfl) fun w' hf _ => ⟨by rw [hst], hf.below⟩
      · have h2' : ¬ (x.request > e.request ∨ (i : Int) < c) := by
          intro hx
          have : (decide (x.request > e.request) || decide ((i : Int) < c)) = true := by simpa using hx
          rw [h2] at this; cases this
        rw [if_neg h2'] at hst
        refine G.runE tm 100 ?_
        refine G.reint (k := .i64) 14 (by kernel_rfl) (wrap_succ hlt (by omega)) ?_
        exact G.back (by kernel_rfl) [0, 3, 4, 5, 12, 13, 14] [0] 1 [] (by kernel_rfl) (by kernel_rfl) (IH (i + 1, 52) _ ⟨rfl, hlt, hst⟩ (by simp only; omega))
  · obtain rfl : i = l.length := by simp at hb; omega
    refine G.runE tm 100 ?_
    exact G.ret Try.func98 Try.results98 (.int .i64 out) (by kernel_rfl) fun w' hf _ => ⟨by rw [hst]; simp [Rep.hadL], hf.below⟩
end ro
end Go.Proofs.Ytkjahaoobdbffaa
