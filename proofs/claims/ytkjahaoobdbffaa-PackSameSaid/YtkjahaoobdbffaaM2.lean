/- Reading the program's data out of memory, in the walk. -/
import Derived.Test.YtkjahaoobdbffaaM1
namespace Go.Proofs.Ytkjahaoobdbffaa
open Go Go.RowKit

def bodyOf (fn : Func) : Code := fn.body.getD .skip

theorem tm : Try.prog.follows .mixedOrders = true := by kernel_rfl
theorem z34 : sizeP Try.prog 34 = some 9 := by kernel_rfl
theorem z39 : sizeP Try.prog 39 = some 9 := by kernel_rfl
theorem z114 : sizeP Try.prog 114 = some 5 := by kernel_rfl
theorem z124 : sizeP Try.prog 124 = some 5 := by kernel_rfl
theorem z3 : sizeP Try.prog 3 = some 1 := by kernel_rfl
theorem u34 : ∃ d, Try.prog.underlying 34 = some d ∧ isAggD d = true := ⟨_, Try.underlying34, rfl⟩
theorem u39 : ∃ d, Try.prog.underlying 39 = some d ∧ isAggD d = true := ⟨_, Try.underlying39, rfl⟩
theorem u114 : ∃ d, Try.prog.underlying 114 = some d ∧ isAggD d = true := ⟨_, Try.underlying114, rfl⟩
theorem u124 : ∃ d, Try.prog.underlying 124 = some d ∧ isAggD d = true := ⟨_, Try.underlying124, rfl⟩
theorem u3 : ∃ d, Try.prog.underlying 3 = some d ∧ isAggD d = false := ⟨_, Try.underlying3, rfl⟩

def entC (e : Ent) (p d : Value) : List Cell :=
  [.int .i64 e.view, .int .i64 e.client, .int .i64 e.request, .int .i64 e.dflt, .int .i64 e.closed, .int .i64 e.fuel, .int .i64 e.stack, .sl p e.put.length, .sl d e.drop.length]
def entV (e : Ent) (p d : Value) : Value := .agg #[.int .i64 e.view, .int .i64 e.client, .int .i64 e.request, .int .i64 e.dflt, .int .i64 e.closed, .int .i64 e.fuel, .int .i64 e.stack, p, d]
def rulC (r : Rul) : List Cell := [.int .i64 r.id, .int .i64 r.pri, .int .i64 r.act, .int .i64 r.sco, .str r.pat]
def rulV (r : Rul) : Value := .agg #[.int .i64 r.id, .int .i64 r.pri, .int .i64 r.act, .int .i64 r.sco, .string r.pat]
def msgC (m : Msg) (p : Value) : List Cell :=
  [.int .i64 m.kind, .int .i64 m.view, .int .i64 m.frm, .int .i64 m.to, .int .i64 m.op, .int .i64 m.commit, .int .i64 m.normal, .sl p m.log.length]
def msgV (m : Msg) (p : Value) : Value := .agg #[.int .i64 m.kind, .int .i64 m.view, .int .i64 m.frm, .int .i64 m.to, .int .i64 m.op, .int .i64 m.commit, .int .i64 m.normal, p]
def staC (s : Sta) (p : Value) : List Cell := [.int .i64 s.view, .int .i64 s.normal, .int .i64 s.commit, .int .i64 s.active, .sl p s.log.length]
def staV (s : Sta) (p : Value) : Value := .agg #[.int .i64 s.view, .int .i64 s.normal, .int .i64 s.commit, .int .i64 s.active, p]

theorem entC_ok {h : GH} {e : Ent} {p d : Value} (hp : SlR h 5 RulR p e.put) (hd : SlR h 1 IntR d e.drop) (N : Nat) (β : Nat → Nat) : SV1Ok N β (.agg (entC e p d)) (entV e p d) :=
  ⟨_, rfl, rfl, rfl, rfl, rfl, rfl, rfl, rfl, hp.cell N β, hd.cell N β, trivial⟩
theorem rulC_ok (r : Rul) (N : Nat) (β : Nat → Nat) : SV1Ok N β (.agg (rulC r)) (rulV r) := ⟨_, rfl, rfl, rfl, rfl, rfl, rfl, trivial⟩
theorem msgC_ok {h : GH} {m : Msg} {p : Value} (hp : EntsR h p m.log) (N : Nat) (β : Nat → Nat) : SV1Ok N β (.agg (msgC m p)) (msgV m p) :=
  ⟨_, rfl, rfl, rfl, rfl, rfl, rfl, rfl, rfl, SlR.cell hp N β, trivial⟩
theorem staC_ok {h : GH} {s : Sta} {p : Value} (hp : EntsR h p s.log) (N : Nat) (β : Nat → Nat) : SV1Ok N β (.agg (staC s p)) (staV s p) :=
  ⟨_, rfl, rfl, rfl, rfl, rfl, SlR.cell hp N β, trivial⟩

/-- The slot of an element's address. -/
def addrS (v : Value) (sz i : Nat) : SV1 := .atom (.raw (.pointer (some (elemAddr v sz i))))
theorem addrS_ok (v : Value) (sz i N : Nat) (β : Nat → Nat) : SV1Ok N β (addrS v sz i) (.pointer (some (elemAddr v sz i))) := ⟨rfl, rfl⟩

section G
variable {α : Type} {C : Ctx} {h : GH} {c : Cfg} {sz : Nat} {R : List Value → α → Prop} {v : Value} {l : List α} {T E : TypeId} {d1 d2 : Option Nat} {g : Option (Nat × Bool)}

/-- 's[i]', i known to lie in it. -/
theorem G.idx (hs : SlR h sz R v l) (hu : C.P.underlying T = some (.slice E)) (hz : sizeP C.P E = some sz) {i : Nat} (hi : i < l.length)
    (h1 : semAt c = some ⟨valS (Instr.indexAt T v (.int .i64 i)), d1, g⟩) (hok : gOk C.n d1 g = true) (hk : G C h (afterOp c (gdOf g (addrS v sz i)))) : G C h c :=
  G.sem h1 hok _ _ (addrS_ok v sz i) (says_of fun w _ => run_valS (hs.index hu hz hi w)) hk

theorem G.elA (hs : SlR h sz R v l) (hz : sizeP C.P E = some sz) (hd : ∃ d, C.P.underlying E = some d ∧ isAggD d = true) {i : Nat} {x : α} (hx : l[i]? = some x)
    (h1 : semAt c = some ⟨valS (Instr.loadAt E (.pointer (some (elemAddr v sz i)))), d1, g⟩) (hok : gOk C.n d1 g = true)
    (hk : ∀ arr : Array Value, R arr.toList x → ∃ sv, (∀ N β, SV1Ok N β sv (.agg arr)) ∧ G C h (afterOp c (gdOf g sv))) : G C h c := by
  obtain ⟨d, hd, hag⟩ := hd
  obtain ⟨arr, hR, hrun⟩ := hs.loadA hz hd hag hx
  obtain ⟨sv, h2, h3⟩ := hk arr hR
  exact G.sem h1 hok _ _ h2 (says_of fun w hw => run_valS (hrun w hw)) h3

theorem G.el1 (hs : SlR h 1 R v l) (hd : ∃ d, C.P.underlying E = some d ∧ isAggD d = false) {i : Nat} {x : α} (hx : l[i]? = some x)
    (h1 : semAt c = some ⟨valS (Instr.loadAt E (.pointer (some (elemAddr v 1 i)))), d1, g⟩) (hok : gOk C.n d1 g = true)
    (hk : ∀ u : Value, R [u] x → ∃ sv, (∀ N β, SV1Ok N β sv u) ∧ G C h (afterOp c (gdOf g sv))) : G C h c := by
  obtain ⟨d, hd, hag⟩ := hd
  obtain ⟨u, hR, hrun⟩ := hs.load1 hd hag hx
  obtain ⟨sv, h2, h3⟩ := hk u hR
  exact G.sem h1 hok _ _ h2 (says_of fun w hw => run_valS (hrun w hw)) h3

theorem EntR.arr {arr : Array Value} {e : Ent} (hR : EntR h arr.toList e) : ∃ p d, arr = #[.int .i64 e.view, .int .i64 e.client, .int .i64 e.request, .int .i64 e.dflt, .int .i64 e.closed, .int .i64 e.fuel, .int .i64 e.stack, p, d] ∧ SlR h 5 RulR p e.put ∧ SlR h 1 IntR d e.drop := by
  obtain ⟨p, d, h1, h2, h3⟩ := hR
  exact ⟨p, d, by apply Array.ext'; simpa using h1, h2, h3⟩

theorem G.elEnt {l : List Ent} (hs : EntsR h v l) (hz : sizeP C.P E = some 9) (hd : ∃ d, C.P.underlying E = some d ∧ isAggD d = true) {i : Nat} {e : Ent} (hx : l[i]? = some e)
    (h1 : semAt c = some ⟨valS (Instr.loadAt E (.pointer (some (elemAddr v 9 i)))), d1, g⟩) (hok : gOk C.n d1 g = true)
    (hk : ∀ p d, SlR h 5 RulR p e.put → SlR h 1 IntR d e.drop → G C h (afterOp c (gdOf g (.agg (entC e p d))))) : G C h c :=
  G.elA hs hz hd hx h1 hok fun arr hR => by
    obtain ⟨p, d, rfl, h2, h3⟩ := EntR.arr hR
    exact ⟨_, entC_ok h2 h3, hk p d h2 h3⟩

theorem G.elRul {l : List Rul} (hs : SlR h 5 RulR v l) (hz : sizeP C.P E = some 5) (hd : ∃ d, C.P.underlying E = some d ∧ isAggD d = true) {i : Nat} {r : Rul} (hx : l[i]? = some r)
    (h1 : semAt c = some ⟨valS (Instr.loadAt E (.pointer (some (elemAddr v 5 i)))), d1, g⟩) (hok : gOk C.n d1 g = true)
    (hk : G C h (afterOp c (gdOf g (.agg (rulC r))))) : G C h c :=
  G.elA hs hz hd hx h1 hok fun arr hR => by
    have : arr = #[.int .i64 r.id, .int .i64 r.pri, .int .i64 r.act, .int .i64 r.sco, .string r.pat] := by apply Array.ext'; simpa [RulR] using hR
    subst this
    exact ⟨_, rulC_ok r, hk⟩

theorem G.elInt {l : List Int} (hs : SlR h 1 IntR v l) (hd : ∃ d, C.P.underlying E = some d ∧ isAggD d = false) {i : Nat} {n : Int} (hx : l[i]? = some n)
    (h1 : semAt c = some ⟨valS (Instr.loadAt E (.pointer (some (elemAddr v 1 i)))), d1, g⟩) (hok : gOk C.n d1 g = true)
    (hk : G C h (afterOp c (gdOf g (.atom (.int .i64 n))))) : G C h c :=
  G.el1 hs hd hx h1 hok fun u hR => by
    have : u = .int .i64 n := by simpa [IntR] using hR
    subst this
    exact ⟨.atom (.int .i64 n), fun _ _ => rfl, hk⟩
end G

section GD
variable {α : Type} {C : Ctx} {h0 h : GH} {ops : Array Oper} {k : List Item} {ks : List Nat} {dd : DCfg} {sz : Nat} {R : List Value → α → Prop} {v : Value} {l : List α} {T E : TypeId} {d1 d2 : Option Nat} {g : Option (Nat × Bool)}

theorem GD.idx (j : Nat) (hs : SlR h0 sz R v l) (hu : C.P.underlying T = some (.slice E)) (hz : sizeP C.P E = some sz) {i : Nat} (hi : i < l.length)
    (h1 : takeAtD ops dd j = some ⟨valS (Instr.indexAt T v (.int .i64 i)), d1, g⟩) (hok : gOk C.n d1 g = true) (hk : GD C h0 h ops k ks (afterI ops dd j (gdOf g (addrS v sz i)))) : GD C h0 h ops k ks dd :=
  GD.sem j h1 hok _ _ (addrS_ok v sz i) (says_of fun w _ => run_valS (hs.index hu hz hi w)) hk

theorem GD.elA (j : Nat) (hs : SlR h0 sz R v l) (hz : sizeP C.P E = some sz) (hd : ∃ d, C.P.underlying E = some d ∧ isAggD d = true) {i : Nat} {x : α} (hx : l[i]? = some x)
    (h1 : takeAtD ops dd j = some ⟨valS (Instr.loadAt E (.pointer (some (elemAddr v sz i)))), d1, g⟩) (hok : gOk C.n d1 g = true)
    (hk : ∀ arr : Array Value, R arr.toList x → ∃ sv, (∀ N β, SV1Ok N β sv (.agg arr)) ∧ GD C h0 h ops k ks (afterI ops dd j (gdOf g sv))) : GD C h0 h ops k ks dd := by
  obtain ⟨d, hd, hag⟩ := hd
  obtain ⟨arr, hR, hrun⟩ := hs.loadA hz hd hag hx
  obtain ⟨sv, h2, h3⟩ := hk arr hR
  exact GD.sem j h1 hok _ _ h2 (says_of fun w hw => run_valS (hrun w hw)) h3

theorem GD.elEnt {l : List Ent} (j : Nat) (hs : EntsR h0 v l) (hz : sizeP C.P E = some 9) (hd : ∃ d, C.P.underlying E = some d ∧ isAggD d = true) {i : Nat} {e : Ent} (hx : l[i]? = some e)
    (h1 : takeAtD ops dd j = some ⟨valS (Instr.loadAt E (.pointer (some (elemAddr v 9 i)))), d1, g⟩) (hok : gOk C.n d1 g = true)
    (hk : ∀ p d, SlR h0 5 RulR p e.put → SlR h0 1 IntR d e.drop → GD C h0 h ops k ks (afterI ops dd j (gdOf g (.agg (entC e p d))))) : GD C h0 h ops k ks dd :=
  GD.elA j hs hz hd hx h1 hok fun arr hR => by
    obtain ⟨p, d, rfl, h2, h3⟩ := EntR.arr hR
    exact ⟨_, entC_ok h2 h3, hk p d h2 h3⟩

theorem GD.elRul {l : List Rul} (j : Nat) (hs : SlR h0 5 RulR v l) (hz : sizeP C.P E = some 5) (hd : ∃ d, C.P.underlying E = some d ∧ isAggD d = true) {i : Nat} {r : Rul} (hx : l[i]? = some r)
    (h1 : takeAtD ops dd j = some ⟨valS (Instr.loadAt E (.pointer (some (elemAddr v 5 i)))), d1, g⟩) (hok : gOk C.n d1 g = true)
    (hk : GD C h0 h ops k ks (afterI ops dd j (gdOf g (.agg (rulC r))))) : GD C h0 h ops k ks dd :=
  GD.elA j hs hz hd hx h1 hok fun arr hR => by
    have : arr = #[.int .i64 r.id, .int .i64 r.pri, .int .i64 r.act, .int .i64 r.sco, .string r.pat] := by apply Array.ext'; simpa [RulR] using hR
    subst this
    exact ⟨_, rulC_ok r, hk⟩

theorem GD.elInt {l : List Int} (j : Nat) (hs : SlR h0 1 IntR v l) (hd : ∃ d, C.P.underlying E = some d ∧ isAggD d = false) {i : Nat} {n : Int} (hx : l[i]? = some n)
    (h1 : takeAtD ops dd j = some ⟨valS (Instr.loadAt E (.pointer (some (elemAddr v 1 i)))), d1, g⟩) (hok : gOk C.n d1 g = true)
    (hk : GD C h0 h ops k ks (afterI ops dd j (gdOf g (.atom (.int .i64 n))))) : GD C h0 h ops k ks dd := by
  obtain ⟨d, hd, hag⟩ := hd
  obtain ⟨u, hR, hrun⟩ := hs.load1 hd hag hx
  have : u = .int .i64 n := by simpa [IntR] using hR
  subst this
  exact GD.sem j h1 hok _ (.atom (.int .i64 n)) (fun _ _ => rfl) (says_of fun w hw => run_valS (hrun w hw)) hk
end GD
end Go.Proofs.Ytkjahaoobdbffaa
