/- Messages and records that are right. -/
import Derived.Test.YtkjahaoobdbffaaK2
namespace Go.Proofs.Ytkjahaoobdbffaa
open Go Go.RowKit
attribute [local irreducible] G GD GDop

structure Rcd where
  kind : Int
  a : Int
  b : Int
  log : List Ent
  deriving DecidableEq

def rcdC (m : Rcd) (p : Value) : List Cell := [.int .i64 m.kind, .int .i64 m.a, .int .i64 m.b, .sl p m.log.length]
def rcdV (m : Rcd) (p : Value) : Value := .agg #[.int .i64 m.kind, .int .i64 m.a, .int .i64 m.b, p]
theorem rcdC_ok {h : GH} {m : Rcd} {p : Value} (hp : EntsR h p m.log) (N : Nat) (β : Nat → Nat) : SV1Ok N β (.agg (rcdC m p)) (rcdV m p) :=
  ⟨_, rfl, rfl, rfl, rfl, SlR.cell hp N β, trivial⟩

/-- From so many to so many right entries. -/
def logged (l : List Ent) (lo hi : Int) : Bool := decide ((l.length : Int) ≥ lo) && decide ((l.length : Int) ≤ hi) && !(l.any fun e => !entRight e)

/-- Is a message right? -/
def msgNums (m : Msg) : Bool :=
  inR 1 8 m.kind && inR 0 1099511627776 m.view && inR 0 1099511627776 m.normal && inR 0 6 m.frm && inR 0 6 m.to && inR 0 64 m.op && inR 0 64 m.commit
def msgRight (m : Msg) : Bool := msgNums m &&
  (if m.kind = 1 then logged m.log 1 1 else if m.kind = 5 ∨ m.kind = 6 ∨ m.kind = 8 then logged m.log 0 64 else ((m.log.length : Int) == 0))

def rcdRight (m : Rcd) : Bool := inR 1 5 m.kind && inR 0 1099511627776 m.a && inR 0 1099511627776 m.b && (if m.kind = 2 then logged m.log 1 1 else ((m.log.length : Int) == 0))

section r
variable {h : GH} {v : Value} {w : World}

theorem f136_ok {p d : Value} {e : Ent} (hp : SlR h 5 RulR p e.put) (hd : SlR h 1 IntR d e.drop) (hs : Sub h w) :
    Calls Try.prog 136 #[entV e p d] w fun e' w' => e' = .returned (.bool (!entRight e)) ∧ Below w.heap.size w w' := by
  refine Calls.enter [.agg (entC e p d)] Try.func136 (c := bodyOf Try.f136) (by kernel_rfl) Try.ntmps136 ⟨entC_ok hp hd _ _, trivial⟩ (by simp) hs ?_
  refine G.runE tm 100 ?_
  refine G.callV (f := 18) (svs := [.agg (entC e p d)]) (d := some 4) (by kernel_rfl) [entV e p d] (.bool (entRight e)) (by kernel_rfl) (by kernel_rfl) (by kernel_rfl) (fun w hs => f18_ok hp hd hs) ?_
  refine G.runE tm 100 ?_
  exact G.ret Try.func136 Try.results136 (.bool (!entRight e)) (by kernel_rfl) fun w' hf _ => ⟨rfl, hf.below⟩

theorem f149_ok {l : List Ent} (hl : EntsR h v l) (hs : Sub h w) (f : FuncId) (he : enters Try.prog f = true) (p : Ent → Bool)
    (hf : ∀ r a b w, SlR h 5 RulR a r.put → SlR h 1 IntR b r.drop → Sub h w → Calls Try.prog f #[entV r a b] w fun e w' => e = .returned (.bool (p r)) ∧ Below w.heap.size w w') :
    Calls Try.prog 149 #[v, fnV f] w fun e w' => e = .returned (.int .i64 (idxF p l)) ∧ Below w.heap.size w w' := by
  have hlen := SlR.len hl
  refine Calls.enter [.atom (.sl v l.length), .atom (.raw (fnV f))] Try.func149 (c := bodyOf Try.f149) (by kernel_rfl) Try.ntmps149 ⟨SlR.sv hl _ _, ⟨rfl, rfl⟩, trivial⟩ (by simp) hs ?_
  refine G.runE tm 100 ?_
  refine G.loop (α := Nat) (fun i => ⟨[(0, .one (.atom (.sl v l.length))), (1, .one (.atom (.raw (fnV f)))), (7, .one (.atom (.int .i64 l.length))), (8, .one (.atom (.int .i64 i)))], [], 0, []⟩)
    (fun i g => g = h ∧ i ≤ l.length ∧ (l.take i).any p = false) (fun i => l.length - i) 0 [0, 1, 7, 8] [] 0 [] (by kernel_rfl) (by kernel_rfl) (by kernel_rfl) ⟨rfl, Nat.zero_le _, by simp⟩ ?_
  rintro i g ⟨rfl, hi, hall⟩ IH
  refine G.runE tm 100 ?_
  refine G.cond (decide ((i : Int) < (l.length : Int))) (by kernel_rfl) (fun hb => ?_) (fun hb => ?_)
  · have hlt : i < l.length := by simpa using hb
    obtain ⟨r, hr⟩ := get_of_lt hlt
    refine G.runE tm 100 ?_
    refine G.idx (d1 := some 14) (g := none) (T := 22) (E := 34) hl Try.underlying22 z34 hlt (by kernel_rfl) (by kernel_rfl) ?_
    refine G.elEnt (d1 := some 15) (g := none) (E := 34) hl z34 u34 hr (by kernel_rfl) (by kernel_rfl) fun a b ha hb => ?_
    refine G.callV (f := f) (svs := [.agg (entC r a b)]) (d := some 16) (by kernel_rfl) [entV r a b] (.bool (p r)) (by kernel_rfl) he (by kernel_rfl) (fun w hs => hf r a b w ha hb hs) ?_
    refine G.runE tm 100 ?_
    refine G.cond (p r) (by kernel_rfl) (fun hb => ?_) (fun hb => ?_)
    · refine G.runE tm 100 ?_
      exact G.ret Try.func149 Try.results149 (.int .i64 i) (by kernel_rfl) fun w' hf _ => ⟨by rw [idxF_found hr hall hb], hf.below⟩
    · refine G.runE tm 100 ?_
      refine G.reint (k := .i64) 8 (by kernel_rfl) (wrap_succ hlt hlen) ?_
      exact G.back (by kernel_rfl) [0, 1, 7, 8] [] 0 [] (by kernel_rfl) (by kernel_rfl) (IH (i + 1) _ ⟨rfl, hlt, any_take_succ hr hall hb⟩ (by omega))
  · obtain rfl : i = l.length := by simp at hb; omega
    rw [List.take_length] at hall
    refine G.runE tm 100 ?_
    exact G.ret Try.func149 Try.results149 (.int .i64 (-1)) (by kernel_rfl) fun w' hf _ => ⟨by rw [idxF_none hall], hf.below⟩

theorem f121_ok {l : List Ent} (hl : EntsR h v l) (hs : Sub h w) (f : FuncId) (he : enters Try.prog f = true) (p : Ent → Bool)
    (hf : ∀ r a b w, SlR h 5 RulR a r.put → SlR h 1 IntR b r.drop → Sub h w → Calls Try.prog f #[entV r a b] w fun e w' => e = .returned (.bool (p r)) ∧ Below w.heap.size w w') :
    Calls Try.prog 121 #[v, fnV f] w fun e w' => e = .returned (.bool (l.any p)) ∧ Below w.heap.size w w' := by
  refine Calls.enter [.atom (.sl v l.length), .atom (.raw (fnV f))] Try.func121 (c := bodyOf Try.f121) (by kernel_rfl) Try.ntmps121 ⟨SlR.sv hl _ _, ⟨rfl, rfl⟩, trivial⟩ (by simp) hs ?_
  refine G.runE tm 100 ?_
  refine G.callV (f := 149) (svs := [.atom (.sl v l.length), .atom (.raw (fnV f))]) (d := some 7) (by kernel_rfl) [v, fnV f] (.int .i64 (idxF p l)) (by kernel_rfl) (by kernel_rfl) (by kernel_rfl) (fun w hs => f149_ok hl hs f he p hf) ?_
  refine G.runE tm 100 ?_
  exact G.ret Try.func121 Try.results121 (.bool (decide (idxF p l ≥ 0))) (by kernel_rfl) fun w' hf _ => ⟨by rw [idxF_any], hf.below⟩

theorem f97_ok {l : List Ent} {lo hi : Int} (hl : EntsR h v l) (hs : Sub h w) :
    Calls Try.prog 97 #[v, .int .i64 lo, .int .i64 hi] w fun e w' => e = .returned (.bool (logged l lo hi)) ∧ Below w.heap.size w w' := by
  refine Calls.enter [.atom (.sl v l.length), .atom (.int .i64 lo), .atom (.int .i64 hi)] Try.func97 (c := bodyOf Try.f97) (by kernel_rfl) Try.ntmps97 ⟨SlR.sv hl _ _, rfl, rfl, trivial⟩ (by simp) hs ?_
  refine G.runE tm 100 ?_
  refine G.callGV (f := 121) (svs := [.atom (.sl v l.length), .atom (.raw (fnV 136))]) (d := 19) (tg := 17) (want := true) (by kernel_rfl) [v, fnV 136] (.bool (l.any fun e => !entRight e)) (by kernel_rfl) (by kernel_rfl) (by kernel_rfl)
    (says_of fun w hs => f121_ok hl hs 136 (by kernel_rfl) (fun e => !entRight e) fun r a b w ha hb hs => f136_ok ha hb hs) ?_
  refine G.runE tm 100 ?_
  exact G.ret Try.func97 Try.results97 (.bool (logged l lo hi)) (by kernel_rfl) fun w' hf _ => ⟨rfl, hf.below⟩

def msgBad (m : Msg) : Bool :=
  decide (m.kind < 1) || decide (m.kind > 8) || !inR 0 1099511627776 m.view || !inR 0 1099511627776 m.normal || decide (m.frm < 0) || decide (m.frm > 6) || decide (m.to < 0) || decide (m.to > 6) ||
    decide (m.op < 0) || decide (m.op > 64) || decide (m.commit < 0) || decide (m.commit > 64)

theorem msgNums_bad (m : Msg) : msgNums m = !msgBad m := by
  unfold msgNums msgBad inR
  rw [Bool.eq_iff_iff]
  simp
  omega

theorem f40_ok {p : Value} {m : Msg} (hp : EntsR h p m.log) (hs : Sub h w) :
    Calls Try.prog 40 #[msgV m p] w fun e w' => e = .returned (.bool (msgRight m)) ∧ Below w.heap.size w w' := by
  refine Calls.enter [.agg (msgC m p)] Try.func40 (c := bodyOf Try.f40) (by kernel_rfl) Try.ntmps40 ⟨msgC_ok hp _ _, trivial⟩ (by simp) hs ?_
  refine G.runT tab0_ok tm 100 ?_
  refine G.cond (msgBad m) (by kernel_rfl) (fun hb => ?_) (fun hb => ?_)
  · refine G.runE tm 100 ?_
    refine G.ret Try.func40 Try.results40 (.bool false) (by kernel_rfl) fun w' hf _ => ⟨?_, hf.below⟩
    rw [msgRight, msgNums_bad, hb]; rfl
  have hn : msgNums m = true := by rw [msgNums_bad, hb]; rfl
  refine G.runE tm 100 ?_
  refine G.cond (m.kind == 1) (by kernel_rfl) (fun h1 => ?_) (fun h1 => ?_)
  · refine G.runE tm 100 ?_
    refine G.callV (f := 97) (svs := [.atom (.sl p m.log.length), .atom (.int .i64 1), .atom (.int .i64 1)]) (d := some 69) (by kernel_rfl) [p, .int .i64 1, .int .i64 1] (.bool (logged m.log 1 1)) (by kernel_rfl) (by kernel_rfl) (by kernel_rfl) (fun w hs => f97_ok hp hs) ?_
    refine G.runE tm 100 ?_
    refine G.ret Try.func40 Try.results40 (.bool (logged m.log 1 1)) (by kernel_rfl) fun w' hf _ => ⟨?_, hf.below⟩
    simp only [beq_iff_eq] at h1
    simp [msgRight, hn, h1]
  refine G.runE tm 100 ?_
  simp only [beq_eq_false_iff_ne, ne_eq] at h1
  refine G.cond (m.kind == 5) (by kernel_rfl) (fun h5 => ?_) (fun h5 => ?_)
  · simp only [beq_iff_eq] at h5
    refine G.runE tm 100 ?_
    refine G.condT (b := m.kind == 5) (by kernel_rfl) (by simp [h5]) ?_
    refine G.runE tm 100 ?_
    refine G.callV (f := 97) (svs := [.atom (.sl p m.log.length), .atom (.int .i64 0), .atom (.int .i64 64)]) (d := some 76) (by kernel_rfl) [p, .int .i64 0, .int .i64 64] (.bool (logged m.log 0 64)) (by kernel_rfl) (by kernel_rfl) (by kernel_rfl) (fun w hs => f97_ok hp hs) ?_
    refine G.runE tm 100 ?_
    refine G.ret Try.func40 Try.results40 (.bool (logged m.log 0 64)) (by kernel_rfl) fun w' hf _ => ⟨?_, hf.below⟩
    simp [msgRight, hn, h5]
  refine G.runE tm 100 ?_
  simp only [beq_eq_false_iff_ne, ne_eq] at h5
  refine G.cond (m.kind == 6) (by kernel_rfl) (fun h6 => ?_) (fun h6 => ?_)
  · simp only [beq_iff_eq] at h6
    refine G.runE tm 100 ?_
    refine G.condT (b := m.kind == 6) (by kernel_rfl) (by simp [h6]) ?_
    refine G.runE tm 100 ?_
    refine G.callV (f := 97) (svs := [.atom (.sl p m.log.length), .atom (.int .i64 0), .atom (.int .i64 64)]) (d := some 76) (by kernel_rfl) [p, .int .i64 0, .int .i64 64] (.bool (logged m.log 0 64)) (by kernel_rfl) (by kernel_rfl) (by kernel_rfl) (fun w hs => f97_ok hp hs) ?_
    refine G.runE tm 100 ?_
    refine G.ret Try.func40 Try.results40 (.bool (logged m.log 0 64)) (by kernel_rfl) fun w' hf _ => ⟨?_, hf.below⟩
    simp [msgRight, hn, h6]
  refine G.runE tm 100 ?_
  simp only [beq_eq_false_iff_ne, ne_eq] at h6
  refine G.cond (m.kind == 8) (by kernel_rfl) (fun h8 => ?_) (fun h8 => ?_)
  · simp only [beq_iff_eq] at h8
    refine G.runE tm 100 ?_
    refine G.callV (f := 97) (svs := [.atom (.sl p m.log.length), .atom (.int .i64 0), .atom (.int .i64 64)]) (d := some 76) (by kernel_rfl) [p, .int .i64 0, .int .i64 64] (.bool (logged m.log 0 64)) (by kernel_rfl) (by kernel_rfl) (by kernel_rfl) (fun w hs => f97_ok hp hs) ?_
    refine G.runE tm 100 ?_
    refine G.ret Try.func40 Try.results40 (.bool (logged m.log 0 64)) (by kernel_rfl) fun w' hf _ => ⟨?_, hf.below⟩
    simp [msgRight, hn, h8]
  · simp only [beq_eq_false_iff_ne, ne_eq] at h8
    refine G.runE tm 100 ?_
    refine G.ret Try.func40 Try.results40 (.bool ((m.log.length : Int) == 0)) (by kernel_rfl) fun w' hf _ => ⟨?_, hf.below⟩
    simp [msgRight, hn, h1, h5, h6, h8]

def rcdBad (m : Rcd) : Bool := decide (m.kind < 1) || decide (m.kind > 5) || !inR 0 1099511627776 m.a || !inR 0 1099511627776 m.b

theorem f111_ok {p : Value} {m : Rcd} (hp : EntsR h p m.log) (hs : Sub h w) :
    Calls Try.prog 111 #[rcdV m p] w fun e w' => e = .returned (.bool (rcdRight m)) ∧ Below w.heap.size w w' := by
  refine Calls.enter [.agg (rcdC m p)] Try.func111 (c := bodyOf Try.f111) (by kernel_rfl) Try.ntmps111 ⟨rcdC_ok hp _ _, trivial⟩ (by simp) hs ?_
  have hN : (inR 1 5 m.kind && inR 0 1099511627776 m.a && inR 0 1099511627776 m.b) = !rcdBad m := by
    unfold rcdBad inR
    rw [Bool.eq_iff_iff]
    simp
  refine G.runT tab0_ok tm 100 ?_
  refine G.cond (rcdBad m) (by kernel_rfl) (fun hb => ?_) (fun hb => ?_)
  · refine G.runE tm 100 ?_
    refine G.ret Try.func111 Try.results111 (.bool false) (by kernel_rfl) fun w' hf _ => ⟨?_, hf.below⟩
    rw [rcdRight, hN, hb]; rfl
  refine G.runE tm 100 ?_
  refine G.cond (m.kind == 2) (by kernel_rfl) (fun h2 => ?_) (fun h2 => ?_)
  · refine G.runE tm 100 ?_
    refine G.callV (f := 97) (svs := [.atom (.sl p m.log.length), .atom (.int .i64 1), .atom (.int .i64 1)]) (d := some 28) (by kernel_rfl) [p, .int .i64 1, .int .i64 1] (.bool (logged m.log 1 1)) (by kernel_rfl) (by kernel_rfl) (by kernel_rfl) (fun w hs => f97_ok hp hs) ?_
    refine G.runE tm 100 ?_
    refine G.ret Try.func111 Try.results111 (.bool (logged m.log 1 1)) (by kernel_rfl) fun w' hf _ => ⟨?_, hf.below⟩
    simp only [beq_iff_eq] at h2
    rw [rcdRight, hN, hb]; simp [h2]
  · refine G.runE tm 100 ?_
    refine G.ret Try.func111 Try.results111 (.bool ((m.log.length : Int) == 0)) (by kernel_rfl) fun w' hf _ => ⟨?_, hf.below⟩
    simp only [beq_eq_false_iff_ne, ne_eq] at h2
    rw [rcdRight, hN, hb]; simp [h2]
end r
end Go.Proofs.Ytkjahaoobdbffaa
