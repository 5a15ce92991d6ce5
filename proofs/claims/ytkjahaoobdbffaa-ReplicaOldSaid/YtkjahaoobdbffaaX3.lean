/- Merged: M1 M2 K1 K2 K9 B11 B12 -/
import Derived.Test.YtkjahaoobdbffaaProg
import Derived.Test.YtkjahaoobdbffaaX2

/- The program's data as plain Lean data, and how memory holds them. -/
namespace Go.Proofs.Ytkjahaoobdbffaa
open Go Go.RowKit

structure Rul where
  id : Int
  pri : Int
  act : Int
  sco : Int
  pat : ByteArray
  deriving DecidableEq

structure Ent where
  view : Int
  client : Int
  request : Int
  dflt : Int
  closed : Int
  fuel : Int
  stack : Int
  put : List Rul
  drop : List Int
  deriving DecidableEq

structure Msg where
  kind : Int
  view : Int
  frm : Int
  to : Int
  op : Int
  commit : Int
  normal : Int
  log : List Ent
  deriving DecidableEq

structure Sta where
  view : Int
  normal : Int
  commit : Int
  active : Int
  log : List Ent
  deriving DecidableEq

/-- A slice whose elements (sz cells each) hold the members of l. -/
def SlR {α : Type} (h : GH) (sz : Nat) (R : List Value → α → Prop) (v : Value) (l : List α) : Prop :=
  ∃ ao cap, v = .slice ao l.length cap ∧ l.length ≤ cap ∧ l.length ≤ 140737488351232 ∧
    (l = [] ∨ ∃ b off arr T fr, ao = some ⟨b, off, none⟩ ∧ h b = some (.cells arr T fr) ∧ off + l.length * sz ≤ arr.size ∧
      ∀ i x, l[i]? = some x → R ((arr.toList.drop (off + i * sz)).take sz) x)

def IntR (cs : List Value) (n : Int) : Prop := cs = [.int .i64 n]
def RulR (cs : List Value) (r : Rul) : Prop := cs = [.int .i64 r.id, .int .i64 r.pri, .int .i64 r.act, .int .i64 r.sco, .string r.pat]
def EntR (h : GH) (cs : List Value) (e : Ent) : Prop :=
  ∃ p d, cs = [.int .i64 e.view, .int .i64 e.client, .int .i64 e.request, .int .i64 e.dflt, .int .i64 e.closed, .int .i64 e.fuel, .int .i64 e.stack, p, d] ∧ SlR h 5 RulR p e.put ∧ SlR h 1 IntR d e.drop
def EntsR (h : GH) (v : Value) (l : List Ent) : Prop := SlR h 9 (EntR h) v l
def MsgR (h : GH) (cs : List Value) (m : Msg) : Prop :=
  ∃ p, cs = [.int .i64 m.kind, .int .i64 m.view, .int .i64 m.frm, .int .i64 m.to, .int .i64 m.op, .int .i64 m.commit, .int .i64 m.normal, p] ∧ EntsR h p m.log
def StaR (h : GH) (cs : List Value) (s : Sta) : Prop :=
  ∃ p, cs = [.int .i64 s.view, .int .i64 s.normal, .int .i64 s.commit, .int .i64 s.active, p] ∧ EntsR h p s.log

theorem SlR.mono {α : Type} {h h' : GH} {sz : Nat} {R R' : List Value → α → Prop} {v : Value} {l : List α} (hs : SlR h sz R v l) (hle : GLe h h') (hR : ∀ cs x, R cs x → R' cs x) : SlR h' sz R' v l := by
  obtain ⟨ao, cap, h1, h2, h3, h4⟩ := hs
  refine ⟨ao, cap, h1, h2, h3, h4.imp id ?_⟩
  rintro ⟨b, off, arr, T, fr, e1, e2, e3, e4⟩
  exact ⟨b, off, arr, T, fr, e1, hle _ _ e2, e3, fun i x hx => hR _ _ (e4 i x hx)⟩

theorem EntR.mono {h h' : GH} {cs : List Value} {e : Ent} (hs : EntR h cs e) (hle : GLe h h') : EntR h' cs e := by
  obtain ⟨p, d, h1, h2, h3⟩ := hs
  exact ⟨p, d, h1, h2.mono hle fun _ _ h => h, h3.mono hle fun _ _ h => h⟩

theorem EntsR.mono {h h' : GH} {v : Value} {l : List Ent} (hs : EntsR h v l) (hle : GLe h h') : EntsR h' v l := SlR.mono hs hle fun _ _ h => h.mono hle
theorem MsgR.mono {h h' : GH} {cs : List Value} {m : Msg} (hs : MsgR h cs m) (hle : GLe h h') : MsgR h' cs m := by
  obtain ⟨p, h1, h2⟩ := hs; exact ⟨p, h1, h2.mono hle⟩
theorem StaR.mono {h h' : GH} {cs : List Value} {m : Sta} (hs : StaR h cs m) (hle : GLe h h') : StaR h' cs m := by
  obtain ⟨p, h1, h2⟩ := hs; exact ⟨p, h1, h2.mono hle⟩

section sl
variable {α : Type} {h : GH} {sz : Nat} {R : List Value → α → Prop} {v : Value} {l : List α}

theorem SlR.isSlice (hs : SlR h sz R v l) : ∃ a c, v = .slice a l.length c := by
  obtain ⟨ao, cap, h1, _⟩ := hs; exact ⟨ao, cap, h1⟩
theorem SlR.len (hs : SlR h sz R v l) : l.length ≤ 140737488351232 := by
  obtain ⟨ao, cap, _, _, h3, _⟩ := hs; exact h3

/-- What is known of a slot that holds such a slice. -/
theorem SlR.cell (hs : SlR h sz R v l) (N : Nat) (β : Nat → Nat) : CellOk N β (.sl v l.length) v := ⟨rfl, hs.isSlice⟩
theorem SlR.sv (hs : SlR h sz R v l) (N : Nat) (β : Nat → Nat) : SV1Ok N β (.atom (.sl v l.length)) v := hs.cell N β

def elemAddr (v : Value) (sz i : Nat) : Addr := match v with
  | .slice (some a) _ _ => a.add (i * sz)
  | _ => ⟨0, 0, none⟩

variable {P : Program} {T E : TypeId}

theorem SlR.index (hs : SlR h sz R v l) (hu : P.underlying T = some (.slice E)) (hz : sizeP P E = some sz) {i : Nat} (hi : i < l.length) (w : World) :
    (Instr.indexAt T v (.int .i64 i)).run P w = .ok (.pointer (some (elemAddr v sz i))) w := by
  obtain ⟨ao, cap, rfl, h2, h3, h4⟩ := hs
  rcases h4 with rfl | ⟨b, off, arr, T', fr, rfl, e2, e3, e4⟩
  · simp at hi
  · have hc : (0 : Int) ≤ (i : Int) ∧ (i : Int) < (l.length : Int) := ⟨by omega, by omega⟩
    simp only [Instr.indexAt, asIntOf, Sem.run_bind, Sem.run_pure, Result.andThen_ok, run_underlying hu, Sem.run_ite, if_pos hc, run_sizeP hz, Int.toNat_natCast, elemAddr]

theorem SlR.loadA (hs : SlR h sz R v l) (hz : sizeP P E = some sz) {d : TypeDesc} (hd : P.underlying E = some d) (hag : isAggD d = true) {i : Nat} {x : α} (hx : l[i]? = some x) :
    ∃ arr : Array Value, R arr.toList x ∧ ∀ w, Sub h w → (Instr.loadAt E (.pointer (some (elemAddr v sz i)))).run P w = .ok (.agg arr) w := by
  obtain ⟨ao, cap, rfl, h2, h3, h4⟩ := hs
  have hi : i < l.length := (List.getElem?_eq_some_iff.1 hx).1
  rcases h4 with rfl | ⟨b, off, arr, T', fr, rfl, e2, e3, e4⟩
  · simp at hi
  · have hR := e4 i x hx
    have hle : (i + 1) * sz ≤ l.length * sz := Nat.mul_le_mul_right _ hi
    rw [Nat.add_mul, Nat.one_mul] at hle
    have ha : elemAddr (.slice (some ⟨b, off, none⟩) l.length cap) sz i = ⟨b, off + i * sz, none⟩ := by simp [elemAddr, Addr.add_lit]
    rw [ha]
    refine ⟨((arr.toList.drop (off + i * sz)).take sz).toArray, by simpa using hR, fun w hw => ?_⟩
    simp only [Instr.loadAt, Instr.sureAddr, loadVar, Sem.run_bind, Sem.run_pure, Result.andThen_ok, run_isAggP hd, hag, if_true, run_sizeP hz, run_loadCells_heap (hw _ _ e2) (off := off + i * sz) (m := sz) (by omega)]

theorem SlR.load1 (hs : SlR h 1 R v l) {d : TypeDesc} (hd : P.underlying E = some d) (hag : isAggD d = false) {i : Nat} {x : α} (hx : l[i]? = some x) :
    ∃ u : Value, R [u] x ∧ ∀ w, Sub h w → (Instr.loadAt E (.pointer (some (elemAddr v 1 i)))).run P w = .ok u w := by
  obtain ⟨ao, cap, rfl, h2, h3, h4⟩ := hs
  have hi : i < l.length := (List.getElem?_eq_some_iff.1 hx).1
  rcases h4 with rfl | ⟨b, off, arr, T', fr, rfl, e2, e3, e4⟩
  · simp at hi
  · have hR := e4 i x hx
    have ha : elemAddr (.slice (some ⟨b, off, none⟩) l.length cap) 1 i = ⟨b, off + i * 1, none⟩ := by simp [elemAddr, Addr.add_lit]
    rw [ha]
    have hlt : off + i * 1 < arr.size := by omega
    refine ⟨arr[off + i * 1], ?_, fun w hw => ?_⟩
    · have : (arr.toList.drop (off + i * 1)).take 1 = [arr[off + i * 1]] := by
        rw [List.drop_eq_getElem_cons (by simpa using hlt)]; simp
      rw [this] at hR; exact hR
    · have : w.cell? ⟨b, off + i * 1, none⟩ = some arr[off + i * 1] := by rw [cell_of_heap (hw _ _ e2)]; simp
      simp only [Instr.loadAt, Instr.sureAddr, loadVar, Sem.run_bind, Sem.run_pure, Result.andThen_ok, run_isAggP hd, hag, Bool.false_eq_true, if_false, run_load, this]
end sl
end Go.Proofs.Ytkjahaoobdbffaa

/- Reading the program's data out of memory, in the walk. -/
namespace Go.Proofs.Ytkjahaoobdbffaa
open Go Go.RowKit

def bodyOf (fn : Func) : Code := fn.body.getD .skip

theorem tm : Try.prog.follows .mixedOrders = true := by kernel_rfl
theorem z34 : sizeP Try.prog 34 = some 9 := by kernel_rfl
theorem z39 : sizeP Try.prog 39 = some 9 := by kernel_rfl
theorem z114 : sizeP Try.prog 114 = some 5 := by kernel_rfl
theorem z124 : sizeP Try.prog 124 = some 5 := by kernel_rfl
theorem z3 : sizeP Try.prog 3 = some 1 := by kernel_rfl
theorem u34 : ∃ d, Try.prog.underlying 34 = some d ∧ isAggD d = true := ⟨_, Try.underlying34, rfl⟩
theorem u39 : ∃ d, Try.prog.underlying 39 = some d ∧ isAggD d = true := ⟨_, Try.underlying39, rfl⟩
theorem u114 : ∃ d, Try.prog.underlying 114 = some d ∧ isAggD d = true := ⟨_, Try.underlying114, rfl⟩
theorem u124 : ∃ d, Try.prog.underlying 124 = some d ∧ isAggD d = true := ⟨_, Try.underlying124, rfl⟩
theorem u3 : ∃ d, Try.prog.underlying 3 = some d ∧ isAggD d = false := ⟨_, Try.underlying3, rfl⟩

def entC (e : Ent) (p d : Value) : List Cell :=
  [.int .i64 e.view, .int .i64 e.client, .int .i64 e.request, .int .i64 e.dflt, .int .i64 e.closed, .int .i64 e.fuel, .int .i64 e.stack, .sl p e.put.length, .sl d e.drop.length]
def entV (e : Ent) (p d : Value) : Value := .agg #[.int .i64 e.view, .int .i64 e.client, .int .i64 e.request, .int .i64 e.dflt, .int .i64 e.closed, .int .i64 e.fuel, .int .i64 e.stack, p, d]
def rulC (r : Rul) : List Cell := [.int .i64 r.id, .int .i64 r.pri, .int .i64 r.act, .int .i64 r.sco, .str r.pat]
def rulV (r : Rul) : Value := .agg #[.int .i64 r.id, .int .i64 r.pri, .int .i64 r.act, .int .i64 r.sco, .string r.pat]
def msgC (m : Msg) (p : Value) : List Cell :=
  [.int .i64 m.kind, .int .i64 m.view, .int .i64 m.frm, .int .i64 m.to, .int .i64 m.op, .int .i64 m.commit, .int .i64 m.normal, .sl p m.log.length]
def msgV (m : Msg) (p : Value) : Value := .agg #[.int .i64 m.kind, .int .i64 m.view, .int .i64 m.frm, .int .i64 m.to, .int .i64 m.op, .int .i64 m.commit, .int .i64 m.normal, p]
def staC (s : Sta) (p : Value) : List Cell := [.int .i64 s.view, .int .i64 s.normal, .int .i64 s.commit, .int .i64 s.active, .sl p s.log.length]
def staV (s : Sta) (p : Value) : Value := .agg #[.int .i64 s.view, .int .i64 s.normal, .int .i64 s.commit, .int .i64 s.active, p]

theorem entC_ok {h : GH} {e : Ent} {p d : Value} (hp : SlR h 5 RulR p e.put) (hd : SlR h 1 IntR d e.drop) (N : Nat) (β : Nat → Nat) : SV1Ok N β (.agg (entC e p d)) (entV e p d) :=
  ⟨_, rfl, rfl, rfl, rfl, rfl, rfl, rfl, rfl, hp.cell N β, hd.cell N β, trivial⟩
theorem rulC_ok (r : Rul) (N : Nat) (β : Nat → Nat) : SV1Ok N β (.agg (rulC r)) (rulV r) := ⟨_, rfl, rfl, rfl, rfl, rfl, rfl, trivial⟩
theorem msgC_ok {h : GH} {m : Msg} {p : Value} (hp : EntsR h p m.log) (N : Nat) (β : Nat → Nat) : SV1Ok N β (.agg (msgC m p)) (msgV m p) :=
  ⟨_, rfl, rfl, rfl, rfl, rfl, rfl, rfl, rfl, SlR.cell hp N β, trivial⟩
theorem staC_ok {h : GH} {s : Sta} {p : Value} (hp : EntsR h p s.log) (N : Nat) (β : Nat → Nat) : SV1Ok N β (.agg (staC s p)) (staV s p) :=
  ⟨_, rfl, rfl, rfl, rfl, rfl, SlR.cell hp N β, trivial⟩

/-- The slot of an element's address. -/
def addrS (v : Value) (sz i : Nat) : SV1 := .atom (.raw (.pointer (some (elemAddr v sz i))))
theorem addrS_ok (v : Value) (sz i N : Nat) (β : Nat → Nat) : SV1Ok N β (addrS v sz i) (.pointer (some (elemAddr v sz i))) := ⟨rfl, rfl⟩

section G
variable {α : Type} {C : Ctx} {h : GH} {c : Cfg} {sz : Nat} {R : List Value → α → Prop} {v : Value} {l : List α} {T E : TypeId} {d1 d2 : Option Nat} {g : Option (Nat × Bool)}

/-- 's[i]', i known to lie in it. -/
theorem G.idx (hs : SlR h sz R v l) (hu : C.P.underlying T = some (.slice E)) (hz : sizeP C.P E = some sz) {i : Nat} (hi : i < l.length)
    (h1 : semAt c = some ⟨valS (Instr.indexAt T v (.int .i64 i)), d1, g⟩) (hok : gOk C.n d1 g = true) (hk : G C h (afterOp c (gdOf g (addrS v sz i)))) : G C h c :=
  G.sem h1 hok _ _ (addrS_ok v sz i) (says_of fun w _ => run_valS (hs.index hu hz hi w)) hk

theorem G.elA (hs : SlR h sz R v l) (hz : sizeP C.P E = some sz) (hd : ∃ d, C.P.underlying E = some d ∧ isAggD d = true) {i : Nat} {x : α} (hx : l[i]? = some x)
    (h1 : semAt c = some ⟨valS (Instr.loadAt E (.pointer (some (elemAddr v sz i)))), d1, g⟩) (hok : gOk C.n d1 g = true)
    (hk : ∀ arr : Array Value, R arr.toList x → ∃ sv, (∀ N β, SV1Ok N β sv (.agg arr)) ∧ G C h (afterOp c (gdOf g sv))) : G C h c := by
  obtain ⟨d, hd, hag⟩ := hd
  obtain ⟨arr, hR, hrun⟩ := hs.loadA hz hd hag hx
  obtain ⟨sv, h2, h3⟩ := hk arr hR
  exact G.sem h1 hok _ _ h2 (says_of fun w hw => run_valS (hrun w hw)) h3

theorem G.el1 (hs : SlR h 1 R v l) (hd : ∃ d, C.P.underlying E = some d ∧ isAggD d = false) {i : Nat} {x : α} (hx : l[i]? = some x)
    (h1 : semAt c = some ⟨valS (Instr.loadAt E (.pointer (some (elemAddr v 1 i)))), d1, g⟩) (hok : gOk C.n d1 g = true)
    (hk : ∀ u : Value, R [u] x → ∃ sv, (∀ N β, SV1Ok N β sv u) ∧ G C h (afterOp c (gdOf g sv))) : G C h c := by
  obtain ⟨d, hd, hag⟩ := hd
  obtain ⟨u, hR, hrun⟩ := hs.load1 hd hag hx
  obtain ⟨sv, h2, h3⟩ := hk u hR
  exact G.sem h1 hok _ _ h2 (says_of fun w hw => run_valS (hrun w hw)) h3

theorem EntR.arr {arr : Array Value} {e : Ent} (hR : EntR h arr.toList e) : ∃ p d, arr = #[.int .i64 e.view, .int .i64 e.client, .int .i64 e.request, .int .i64 e.dflt, .int .i64 e.closed, .int .i64 e.fuel, .int .i64 e.stack, p, d] ∧ SlR h 5 RulR p e.put ∧ SlR h 1 IntR d e.drop := by
  obtain ⟨p, d, h1, h2, h3⟩ := hR
  exact ⟨p, d, by apply Array.ext'; simpa using h1, h2, h3⟩

theorem G.elEnt {l : List Ent} (hs : EntsR h v l) (hz : sizeP C.P E = some 9) (hd : ∃ d, C.P.underlying E = some d ∧ isAggD d = true) {i : Nat} {e : Ent} (hx : l[i]? = some e)
    (h1 : semAt c = some ⟨valS (Instr.loadAt E (.pointer (some (elemAddr v 9 i)))), d1, g⟩) (hok : gOk C.n d1 g = true)
    (hk : ∀ p d, SlR h 5 RulR p e.put → SlR h 1 IntR d e.drop → G C h (afterOp c (gdOf g (.agg (entC e p d))))) : G C h c :=
  G.elA hs hz hd hx h1 hok fun arr hR => by
    obtain ⟨p, d, rfl, h2, h3⟩ := EntR.arr hR
    exact ⟨_, entC_ok h2 h3, hk p d h2 h3⟩

theorem G.elRul {l : List Rul} (hs : SlR h 5 RulR v l) (hz : sizeP C.P E = some 5) (hd : ∃ d, C.P.underlying E = some d ∧ isAggD d = true) {i : Nat} {r : Rul} (hx : l[i]? = some r)
    (h1 : semAt c = some ⟨valS (Instr.loadAt E (.pointer (some (elemAddr v 5 i)))), d1, g⟩) (hok : gOk C.n d1 g = true)
    (hk : G C h (afterOp c (gdOf g (.agg (rulC r))))) : G C h c :=
  G.elA hs hz hd hx h1 hok fun arr hR => by
    have : arr = #[.int .i64 r.id, .int .i64 r.pri, .int .i64 r.act, .int .i64 r.sco, .string r.pat] := by apply Array.ext'; simpa [RulR] using hR
    subst this
    exact ⟨_, rulC_ok r, hk⟩

theorem G.elInt {l : List Int} (hs : SlR h 1 IntR v l) (hd : ∃ d, C.P.underlying E = some d ∧ isAggD d = false) {i : Nat} {n : Int} (hx : l[i]? = some n)
    (h1 : semAt c = some ⟨valS (Instr.loadAt E (.pointer (some (elemAddr v 1 i)))), d1, g⟩) (hok : gOk C.n d1 g = true)
    (hk : G C h (afterOp c (gdOf g (.atom (.int .i64 n))))) : G C h c :=
  G.el1 hs hd hx h1 hok fun u hR => by
    have : u = .int .i64 n := by simpa [IntR] using hR
    subst this
    exact ⟨.atom (.int .i64 n), fun _ _ => rfl, hk⟩
end G

section GD
variable {α : Type} {C : Ctx} {h0 h : GH} {ops : Array Oper} {k : List Item} {ks : List Nat} {dd : DCfg} {sz : Nat} {R : List Value → α → Prop} {v : Value} {l : List α} {T E : TypeId} {d1 d2 : Option Nat} {g : Option (Nat × Bool)}

theorem GD.idx (j : Nat) (hs : SlR h0 sz R v l) (hu : C.P.underlying T = some (.slice E)) (hz : sizeP C.P E = some sz) {i : Nat} (hi : i < l.length)
    (h1 : takeAtD ops dd j = some ⟨valS (Instr.indexAt T v (.int .i64 i)), d1, g⟩) (hok : gOk C.n d1 g = true) (hk : GD C h0 h ops k ks (afterI ops dd j (gdOf g (addrS v sz i)))) : GD C h0 h ops k ks dd :=
  GD.sem j h1 hok _ _ (addrS_ok v sz i) (says_of fun w _ => run_valS (hs.index hu hz hi w)) hk

theorem GD.elA (j : Nat) (hs : SlR h0 sz R v l) (hz : sizeP C.P E = some sz) (hd : ∃ d, C.P.underlying E = some d ∧ isAggD d = true) {i : Nat} {x : α} (hx : l[i]? = some x)
    (h1 : takeAtD ops dd j = some ⟨valS (Instr.loadAt E (.pointer (some (elemAddr v sz i)))), d1, g⟩) (hok : gOk C.n d1 g = true)
    (hk : ∀ arr : Array Value, R arr.toList x → ∃ sv, (∀ N β, SV1Ok N β sv (.agg arr)) ∧ GD C h0 h ops k ks (afterI ops dd j (gdOf g sv))) : GD C h0 h ops k ks dd := by
  obtain ⟨d, hd, hag⟩ := hd
  obtain ⟨arr, hR, hrun⟩ := hs.loadA hz hd hag hx
  obtain ⟨sv, h2, h3⟩ := hk arr hR
  exact GD.sem j h1 hok _ _ h2 (says_of fun w hw => run_valS (hrun w hw)) h3

theorem GD.elEnt {l : List Ent} (j : Nat) (hs : EntsR h0 v l) (hz : sizeP C.P E = some 9) (hd : ∃ d, C.P.underlying E = some d ∧ isAggD d = true) {i : Nat} {e : Ent} (hx : l[i]? = some e)
    (h1 : takeAtD ops dd j = some ⟨valS (Instr.loadAt E (.pointer (some (elemAddr v 9 i)))), d1, g⟩) (hok : gOk C.n d1 g = true)
    (hk : ∀ p d, SlR h0 5 RulR p e.put → SlR h0 1 IntR d e.drop → GD C h0 h ops k ks (afterI ops dd j (gdOf g (.agg (entC e p d))))) : GD C h0 h ops k ks dd :=
  GD.elA j hs hz hd hx h1 hok fun arr hR => by
    obtain ⟨p, d, rfl, h2, h3⟩ := EntR.arr hR
    exact ⟨_, entC_ok h2 h3, hk p d h2 h3⟩

theorem GD.elRul {l : List Rul} (j : Nat) (hs : SlR h0 5 RulR v l) (hz : sizeP C.P E = some 5) (hd : ∃ d, C.P.underlying E = some d ∧ isAggD d = true) {i : Nat} {r : Rul} (hx : l[i]? = some r)
    (h1 : takeAtD ops dd j = some ⟨valS (Instr.loadAt E (.pointer (some (elemAddr v 5 i)))), d1, g⟩) (hok : gOk C.n d1 g = true)
    (hk : GD C h0 h ops k ks (afterI ops dd j (gdOf g (.agg (rulC r))))) : GD C h0 h ops k ks dd :=
  GD.elA j hs hz hd hx h1 hok fun arr hR => by
    have : arr = #[.int .i64 r.id, .int .i64 r.pri, .int .i64 r.act, .int .i64 r.sco, .string r.pat] := by apply Array.ext'; simpa [RulR] using hR
    subst this
    exact ⟨_, rulC_ok r, hk⟩

theorem GD.elInt {l : List Int} (j : Nat) (hs : SlR h0 1 IntR v l) (hd : ∃ d, C.P.underlying E = some d ∧ isAggD d = false) {i : Nat} {n : Int} (hx : l[i]? = some n)
    (h1 : takeAtD ops dd j = some ⟨valS (Instr.loadAt E (.pointer (some (elemAddr v 1 i)))), d1, g⟩) (hok : gOk C.n d1 g = true)
    (hk : GD C h0 h ops k ks (afterI ops dd j (gdOf g (.atom (.int .i64 n))))) : GD C h0 h ops k ks dd := by
  obtain ⟨d, hd, hag⟩ := hd
  obtain ⟨u, hR, hrun⟩ := hs.load1 hd hag hx
  have : u = .int .i64 n := by simpa [IntR] using hR
  subst this
  exact GD.sem j h1 hok _ (.atom (.int .i64 n)) (fun _ _ => rfl) (says_of fun w hw => run_valS (hrun w hw)) hk
end GD
end Go.Proofs.Ytkjahaoobdbffaa

/- What the small functions of layers 7 and 11 answer. -/
namespace Go.Proofs.Ytkjahaoobdbffaa
open Go Go.RowKit

def noGH : GH := fun _ => none
theorem sub_no (w : World) : Sub noGH w := fun _ _ h => by cases h

def inR (lo hi n : Int) : Bool := decide (n ≥ lo) && decide (n ≤ hi)

theorem f63_ok (n l : Int) (w : World) : Calls Try.prog 63 #[.int .i64 n, .int .i64 l] w fun e w' => e = .returned (.bool (inR l 1099511627776 n)) ∧ Below w.heap.size w w' := by
  refine Calls.enter (h := noGH) [.atom (.int .i64 n), .atom (.int .i64 l)] Try.func63 (c := bodyOf Try.f63) (by kernel_rfl) Try.ntmps63 ⟨rfl, rfl, trivial⟩ (by simp) (sub_no w) ?_
  refine G.runE tm 100 ?_
  exact G.ret Try.func63 Try.results63 (.bool (inR l 1099511627776 n)) (by kernel_rfl) fun w' hf _ => ⟨rfl, hf.below⟩

theorem f69_ok (n lo hi : Int) (w : World) : Calls Try.prog 69 #[.int .i64 n, .int .i64 lo, .int .i64 hi] w fun e w' => e = .returned (.bool (inR lo hi n)) ∧ Below w.heap.size w w' := by
  refine Calls.enter (h := noGH) [.atom (.int .i64 n), .atom (.int .i64 lo), .atom (.int .i64 hi)] Try.func69 (c := bodyOf Try.f69) (by kernel_rfl) Try.ntmps69 ⟨rfl, rfl, rfl, trivial⟩ (by simp) (sub_no w) ?_
  refine G.runE tm 100 ?_
  exact G.ret Try.func69 Try.results69 (.bool (inR lo hi n)) (by kernel_rfl) fun w' hf _ => ⟨rfl, hf.below⟩

def rulRight (r : Rul) : Bool :=
  decide (r.id ≥ 1) && decide (r.id ≤ 1099511627776) && decide (r.pri ≥ 0) && decide (r.pri ≤ 1000) && decide (r.act ≥ 0) && decide (r.act ≤ 255) && decide (r.sco ≥ 1) && decide (r.sco ≤ 65535) && decide ((r.pat.size : Int) ≤ 256)

theorem f66_ok (r : Rul) (w : World) : Calls Try.prog 66 #[rulV r] w fun e w' => e = .returned (.bool (rulRight r)) ∧ Below w.heap.size w w' := by
  refine Calls.enter (h := noGH) [.agg (rulC r)] Try.func66 (c := bodyOf Try.f66) (by kernel_rfl) Try.ntmps66 ⟨rulC_ok r _ _, trivial⟩ (by simp) (sub_no w) ?_
  refine G.runE tm 100 ?_
  exact G.ret Try.func66 Try.results66 (.bool (rulRight r)) (by kernel_rfl) fun w' hf _ => ⟨rfl, hf.below⟩

theorem f70_ok (r : Rul) (w : World) : Calls Try.prog 70 #[rulV r] w fun e w' => e = .returned (.bool (rulRight r)) ∧ Below w.heap.size w w' := by
  refine Calls.enter (h := noGH) [.agg (rulC r)] Try.func70 (c := bodyOf Try.f70) (by kernel_rfl) Try.ntmps70 ⟨rulC_ok r _ _, trivial⟩ (by simp) (sub_no w) ?_
  refine G.runE tm 100 ?_
  exact G.ret Try.func70 Try.results70 (.bool (rulRight r)) (by kernel_rfl) fun w' hf _ => ⟨rfl, hf.below⟩

def g63 : List SV1 → Option SV1
  | [.atom (.int .i64 n), .atom (.int .i64 l)] => some (.atom (.bool (inR l 1099511627776 n)))
  | _ => none
def g69 : List SV1 → Option SV1
  | [.atom (.int .i64 n), .atom (.int .i64 lo), .atom (.int .i64 hi)] => some (.atom (.bool (inR lo hi n)))
  | _ => none
def gRul : List SV1 → Option SV1
  | [.agg [.int .i64 a, .int .i64 b, .int .i64 c, .int .i64 d, .str p]] => some (.atom (.bool (rulRight ⟨a, b, c, d, p⟩)))
  | _ => none

theorem g63_ok : TabOk Try.prog (tabF 63 fun _ svs => g63 svs) := tabF_plain fun svs v hv => by
  unfold g63 at hv; split at hv
  · rename_i n l
    simp only [Option.some.injEq] at hv; subst hv
    exact ⟨_, _, rfl, fun _ _ => rfl, fun w => f63_ok n l w⟩
  · cases hv
theorem g69_ok : TabOk Try.prog (tabF 69 fun _ svs => g69 svs) := tabF_plain fun svs v hv => by
  unfold g69 at hv; split at hv
  · rename_i n lo hi
    simp only [Option.some.injEq] at hv; subst hv
    exact ⟨_, _, rfl, fun _ _ => rfl, fun w => f69_ok n lo hi w⟩
  · cases hv
theorem g66_ok : TabOk Try.prog (tabF 66 fun _ svs => gRul svs) := tabF_plain fun svs v hv => by
  unfold gRul at hv; split at hv
  · rename_i a b c d p
    simp only [Option.some.injEq] at hv; subst hv
    exact ⟨_, _, rfl, fun _ _ => rfl, fun w => f66_ok ⟨a, b, c, d, p⟩ w⟩
  · cases hv
theorem g70_ok : TabOk Try.prog (tabF 70 fun _ svs => gRul svs) := tabF_plain fun svs v hv => by
  unfold gRul at hv; split at hv
  · rename_i a b c d p
    simp only [Option.some.injEq] at hv; subst hv
    exact ⟨_, _, rfl, fun _ _ => rfl, fun w => f70_ok ⟨a, b, c, d, p⟩ w⟩
  · cases hv

def tab0 : Tab := tabOr (tabF 63 fun _ svs => g63 svs) (tabOr (tabF 69 fun _ svs => g69 svs) (tabOr (tabF 66 fun _ svs => gRul svs) (tabF 70 fun _ svs => gRul svs)))
theorem tab0_ok : TabOk Try.prog tab0 := tabOr_ok g63_ok (tabOr_ok g69_ok (tabOr_ok g66_ok g70_ok))

theorem f65_ok (r : Rul) (w : World) : Calls Try.prog 65 #[rulV r] w fun e w' => e = .returned (.bool (!rulRight r)) ∧ Below w.heap.size w w' := by
  refine Calls.enter (h := noGH) [.agg (rulC r)] Try.func65 (c := bodyOf Try.f65) (by kernel_rfl) Try.ntmps65 ⟨rulC_ok r _ _, trivial⟩ (by simp) (sub_no w) ?_
  refine G.runT tab0_ok tm 100 ?_
  exact G.ret Try.func65 Try.results65 (.bool (!rulRight r)) (by kernel_rfl) fun w' hf _ => ⟨rfl, hf.below⟩

theorem f68_ok (n : Int) (w : World) : Calls Try.prog 68 #[.int .i64 n] w fun e w' => e = .returned (.bool (!inR 1 1099511627776 n)) ∧ Below w.heap.size w w' := by
  refine Calls.enter (h := noGH) [.atom (.int .i64 n)] Try.func68 (c := bodyOf Try.f68) (by kernel_rfl) Try.ntmps68 ⟨rfl, trivial⟩ (by simp) (sub_no w) ?_
  refine G.runT tab0_ok tm 100 ?_
  exact G.ret Try.func68 Try.results68 (.bool (!inR 1 1099511627776 n)) (by kernel_rfl) fun w' hf _ => ⟨rfl, hf.below⟩
end Go.Proofs.Ytkjahaoobdbffaa

/- What the functions that look through slices answer; entries that are right. -/
namespace Go.Proofs.Ytkjahaoobdbffaa
open Go Go.RowKit

theorem wrap_succ {n m : Nat} (h : n < m) (hm : m ≤ 140737488351232) : IntKind.i64.wrap ((n : Int) + 1) = ((n + 1 : Nat) : Int) := by
  rw [IntWalk.i64_in _ (by omega)]; rfl

theorem get_of_lt {α : Type} {l : List α} {i : Nat} (h : i < l.length) : ∃ x, l[i]? = some x := ⟨l[i], by simp [h]⟩

theorem all_take_succ {α : Type} {p : α → Bool} {l : List α} {i : Nat} {x : α} (hx : l[i]? = some x) (h : (l.take i).all p = true) (hp : p x = true) : (l.take (i + 1)).all p = true := by
  rw [List.take_add_one, hx]; simp [h, hp]

theorem any_take_succ {α : Type} {p : α → Bool} {l : List α} {i : Nat} {x : α} (hx : l[i]? = some x) (h : (l.take i).any p = false) (hp : p x = false) : (l.take (i + 1)).any p = false := by
  rw [List.take_add_one, hx]; simp [h, hp]

theorem all_false {α : Type} {p : α → Bool} {l : List α} {i : Nat} {x : α} (hx : l[i]? = some x) (hp : p x = false) : l.all p = false := by
  rw [List.all_eq_false]
  exact ⟨x, List.mem_of_getElem? hx, by simp [hp]⟩

/-- Where the first is, or -1. -/
def idxF {α : Type} (p : α → Bool) (l : List α) : Int := match l.findIdx? p with
  | some i => i
  | none => -1

theorem idxF_found {α : Type} {p : α → Bool} {l : List α} {i : Nat} {x : α} (hx : l[i]? = some x) (h : (l.take i).any p = false) (hp : p x = true) : idxF p l = i := by
  have : l.findIdx? p = some i := by
    rw [List.findIdx?_eq_some_iff_getElem]
    obtain ⟨hi, rfl⟩ := List.getElem?_eq_some_iff.1 hx
    refine ⟨hi, hp, fun j hj => ?_⟩
    have := List.any_eq_false.1 h l[j] (List.mem_take_iff_getElem.2 ⟨j, by omega, rfl⟩)
    simpa using this
  simp [idxF, this]

theorem idxF_none {α : Type} {p : α → Bool} {l : List α} (h : l.any p = false) : idxF p l = -1 := by
  have : l.findIdx? p = none := by
    rw [List.findIdx?_eq_none_iff]
    intro x hx
    simpa using List.any_eq_false.1 h x hx
  simp [idxF, this]

theorem idxF_any {α : Type} (p : α → Bool) (l : List α) : decide (idxF p l ≥ 0) = l.any p := by
  cases h : l.any p
  · rw [idxF_none h]; rfl
  · obtain ⟨x, hx, hp⟩ := List.any_eq_true.1 h
    have : (l.findIdx? p).isSome = true := by rw [List.findIdx?_isSome]; exact h
    obtain ⟨i, hi⟩ := Option.isSome_iff_exists.1 this
    simp [idxF, hi]

/-- The slot state of a loop over a slice that calls a function at each element. -/
def fnV (f : FuncId) : Value := .func (.func f) #[] #[]

section idx
variable {h : GH} {v : Value} {w : World}

theorem f116_ok {l : List Rul} (hl : SlR h 5 RulR v l) (hs : Sub h w) (f : FuncId) (he : enters Try.prog f = true) (p : Rul → Bool)
    (hf : ∀ r w, Calls Try.prog f #[rulV r] w fun e w' => e = .returned (.bool (p r)) ∧ Below w.heap.size w w') :
    Calls Try.prog 116 #[v, fnV f] w fun e w' => e = .returned (.int .i64 (idxF p l)) ∧ Below w.heap.size w w' := by
  have hlen := hl.len
  refine Calls.enter [.atom (.sl v l.length), .atom (.raw (fnV f))] Try.func116 (c := bodyOf Try.f116) (by kernel_rfl) Try.ntmps116 ⟨hl.sv _ _, ⟨rfl, rfl⟩, trivial⟩ (by simp) hs ?_
  refine G.runE tm 100 ?_
  refine G.loop (α := Nat) (fun i => ⟨[(0, .one (.atom (.sl v l.length))), (1, .one (.atom (.raw (fnV f)))), (7, .one (.atom (.int .i64 l.length))), (8, .one (.atom (.int .i64 i)))], [], 0, []⟩)
    (fun i g => g = h ∧ i ≤ l.length ∧ (l.take i).any p = false) (fun i => l.length - i) 0 [0, 1, 7, 8] [] 0 [] (by kernel_rfl) (by kernel_rfl) (by kernel_rfl) ⟨rfl, Nat.zero_le _, by simp⟩ ?_
  rintro i g ⟨rfl, hi, hall⟩ IH
  refine G.runE tm 100 ?_
  refine G.cond (decide ((i : Int) < (l.length : Int))) (by kernel_rfl) (fun hb => ?_) (fun hb => ?_)
  · have hlt : i < l.length := by simpa using hb
    obtain ⟨r, hr⟩ := get_of_lt hlt
    refine G.runE tm 100 ?_
    refine G.idx (d1 := some 14) (g := none) (T := 29) (E := 114) hl Try.underlying29 z114 hlt (by kernel_rfl) (by kernel_rfl) ?_
    refine G.elRul (d1 := some 15) (g := none) (E := 114) hl z114 u114 hr (by kernel_rfl) (by kernel_rfl) ?_
    refine G.callV (f := f) (svs := [.agg (rulC r)]) (d := some 16) (by kernel_rfl) [rulV r] (.bool (p r)) (by kernel_rfl) he (by kernel_rfl) (fun w _ => hf r w) ?_
    refine G.runE tm 100 ?_
    refine G.cond (p r) (by kernel_rfl) (fun hb => ?_) (fun hb => ?_)
    · refine G.runE tm 100 ?_
      exact G.ret Try.func116 Try.results116 (.int .i64 i) (by kernel_rfl) fun w' hf _ => ⟨by rw [idxF_found hr hall hb], hf.below⟩
    · refine G.runE tm 100 ?_
      refine G.reint (k := .i64) 8 (by kernel_rfl) (wrap_succ hlt hlen) ?_
      exact G.back (by kernel_rfl) [0, 1, 7, 8] [] 0 [] (by kernel_rfl) (by kernel_rfl) (IH (i + 1) _ ⟨rfl, hlt, any_take_succ hr hall hb⟩ (by omega))
  · obtain rfl : i = l.length := by simp at hb; omega
    rw [List.take_length] at hall
    refine G.runE tm 100 ?_
    exact G.ret Try.func116 Try.results116 (.int .i64 (-1)) (by kernel_rfl) fun w' hf _ => ⟨by rw [idxF_none hall], hf.below⟩

theorem f117_ok {l : List Int} (hl : SlR h 1 IntR v l) (hs : Sub h w) (f : FuncId) (he : enters Try.prog f = true) (p : Int → Bool)
    (hf : ∀ r w, Calls Try.prog f #[.int .i64 r] w fun e w' => e = .returned (.bool (p r)) ∧ Below w.heap.size w w') :
    Calls Try.prog 117 #[v, fnV f] w fun e w' => e = .returned (.int .i64 (idxF p l)) ∧ Below w.heap.size w w' := by
  have hlen := hl.len
  refine Calls.enter [.atom (.sl v l.length), .atom (.raw (fnV f))] Try.func117 (c := bodyOf Try.f117) (by kernel_rfl) Try.ntmps117 ⟨hl.sv _ _, ⟨rfl, rfl⟩, trivial⟩ (by simp) hs ?_
  refine G.runE tm 100 ?_
  refine G.loop (α := Nat) (fun i => ⟨[(0, .one (.atom (.sl v l.length))), (1, .one (.atom (.raw (fnV f)))), (7, .one (.atom (.int .i64 l.length))), (8, .one (.atom (.int .i64 i)))], [], 0, []⟩)
    (fun i g => g = h ∧ i ≤ l.length ∧ (l.take i).any p = false) (fun i => l.length - i) 0 [0, 1, 7, 8] [] 0 [] (by kernel_rfl) (by kernel_rfl) (by kernel_rfl) ⟨rfl, Nat.zero_le _, by simp⟩ ?_
  rintro i g ⟨rfl, hi, hall⟩ IH
  refine G.runE tm 100 ?_
  refine G.cond (decide ((i : Int) < (l.length : Int))) (by kernel_rfl) (fun hb => ?_) (fun hb => ?_)
  · have hlt : i < l.length := by simpa using hb
    obtain ⟨r, hr⟩ := get_of_lt hlt
    refine G.runE tm 100 ?_
    refine G.idx (d1 := some 14) (g := none) (T := 30) (E := 3) hl Try.underlying30 z3 hlt (by kernel_rfl) (by kernel_rfl) ?_
    refine G.elInt (d1 := some 15) (g := none) (E := 3) hl u3 hr (by kernel_rfl) (by kernel_rfl) ?_
    refine G.callV (f := f) (svs := [.atom (.int .i64 r)]) (d := some 16) (by kernel_rfl) [.int .i64 r] (.bool (p r)) (by kernel_rfl) he (by kernel_rfl) (fun w _ => hf r w) ?_
    refine G.runE tm 100 ?_
    refine G.cond (p r) (by kernel_rfl) (fun hb => ?_) (fun hb => ?_)
    · refine G.runE tm 100 ?_
      exact G.ret Try.func117 Try.results117 (.int .i64 i) (by kernel_rfl) fun w' hf _ => ⟨by rw [idxF_found hr hall hb], hf.below⟩
    · refine G.runE tm 100 ?_
      refine G.reint (k := .i64) 8 (by kernel_rfl) (wrap_succ hlt hlen) ?_
      exact G.back (by kernel_rfl) [0, 1, 7, 8] [] 0 [] (by kernel_rfl) (by kernel_rfl) (IH (i + 1) _ ⟨rfl, hlt, any_take_succ hr hall hb⟩ (by omega))
  · obtain rfl : i = l.length := by simp at hb; omega
    rw [List.take_length] at hall
    refine G.runE tm 100 ?_
    exact G.ret Try.func117 Try.results117 (.int .i64 (-1)) (by kernel_rfl) fun w' hf _ => ⟨by rw [idxF_none hall], hf.below⟩

theorem f64_ok {l : List Rul} (hl : SlR h 5 RulR v l) (hs : Sub h w) (f : FuncId) (he : enters Try.prog f = true) (p : Rul → Bool)
    (hf : ∀ r w, Calls Try.prog f #[rulV r] w fun e w' => e = .returned (.bool (p r)) ∧ Below w.heap.size w w') :
    Calls Try.prog 64 #[v, fnV f] w fun e w' => e = .returned (.bool (l.any p)) ∧ Below w.heap.size w w' := by
  refine Calls.enter [.atom (.sl v l.length), .atom (.raw (fnV f))] Try.func64 (c := bodyOf Try.f64) (by kernel_rfl) Try.ntmps64 ⟨hl.sv _ _, ⟨rfl, rfl⟩, trivial⟩ (by simp) hs ?_
  refine G.runE tm 100 ?_
  refine G.callV (f := 116) (svs := [.atom (.sl v l.length), .atom (.raw (fnV f))]) (d := some 7) (by kernel_rfl) [v, fnV f] (.int .i64 (idxF p l)) (by kernel_rfl) (by kernel_rfl) (by kernel_rfl) (fun w hs => f116_ok hl hs f he p hf) ?_
  refine G.runE tm 100 ?_
  exact G.ret Try.func64 Try.results64 (.bool (decide (idxF p l ≥ 0))) (by kernel_rfl) fun w' hf _ => ⟨by rw [idxF_any], hf.below⟩

theorem f67_ok {l : List Int} (hl : SlR h 1 IntR v l) (hs : Sub h w) (f : FuncId) (he : enters Try.prog f = true) (p : Int → Bool)
    (hf : ∀ r w, Calls Try.prog f #[.int .i64 r] w fun e w' => e = .returned (.bool (p r)) ∧ Below w.heap.size w w') :
    Calls Try.prog 67 #[v, fnV f] w fun e w' => e = .returned (.bool (l.any p)) ∧ Below w.heap.size w w' := by
  refine Calls.enter [.atom (.sl v l.length), .atom (.raw (fnV f))] Try.func67 (c := bodyOf Try.f67) (by kernel_rfl) Try.ntmps67 ⟨hl.sv _ _, ⟨rfl, rfl⟩, trivial⟩ (by simp) hs ?_
  refine G.runE tm 100 ?_
  refine G.callV (f := 117) (svs := [.atom (.sl v l.length), .atom (.raw (fnV f))]) (d := some 7) (by kernel_rfl) [v, fnV f] (.int .i64 (idxF p l)) (by kernel_rfl) (by kernel_rfl) (by kernel_rfl) (fun w hs => f117_ok hl hs f he p hf) ?_
  refine G.runE tm 100 ?_
  exact G.ret Try.func67 Try.results67 (.bool (decide (idxF p l ≥ 0))) (by kernel_rfl) fun w' hf _ => ⟨by rw [idxF_any], hf.below⟩

/-- Is an entry right? -/
def entRight (e : Ent) : Bool :=
  inR 0 1099511627776 e.view && inR 1 1099511627776 e.client && inR 1 1099511627776 e.request && inR (-1) 1099511627776 e.dflt && inR (-1) 1099511627776 e.closed && inR (-1) 1099511627776 e.fuel && inR (-1) 1099511627776 e.stack &&
    decide ((e.put.length : Int) ≤ 16) && decide ((e.drop.length : Int) ≤ 16) && !(e.put.any fun r => !rulRight r) && !(e.drop.any fun n => !inR 1 1099511627776 n)

theorem f18_ok {p d : Value} {e : Ent} (hp : SlR h 5 RulR p e.put) (hd : SlR h 1 IntR d e.drop) (hs : Sub h w) :
    Calls Try.prog 18 #[entV e p d] w fun e' w' => e' = .returned (.bool (entRight e)) ∧ Below w.heap.size w w' := by
  refine Calls.enter [.agg (entC e p d)] Try.func18 (c := bodyOf Try.f18) (by kernel_rfl) Try.ntmps18 ⟨entC_ok hp hd _ _, trivial⟩ (by simp) hs ?_
  refine G.runT tab0_ok tm 100 ?_
  have hc : ∀ w, Sub h w → Calls Try.prog 64 #[p, fnV 65] w fun e' w' => e' = .returned (.bool (e.put.any fun r => !rulRight r)) ∧ Below w.heap.size w w' := fun w hs => f64_ok hp hs 65 (by kernel_rfl) (fun r => !rulRight r) f65_ok
  refine G.callGV (f := 64) (svs := [.atom (.sl p e.put.length), .atom (.raw (fnV 65))]) (d := 54) (tg := 51) (want := true) (by kernel_rfl) [p, fnV 65] (.bool (e.put.any fun r => !rulRight r)) (by kernel_rfl) (by kernel_rfl) (by kernel_rfl)
    (says_of hc) ?_
  refine G.runT tab0_ok tm 100 ?_
  refine G.callGV (f := 67) (svs := [.atom (.sl d e.drop.length), .atom (.raw (fnV 68))]) (d := 60) (tg := 57) (want := true) (by kernel_rfl) [d, fnV 68] (.bool (e.drop.any fun n => !inR 1 1099511627776 n)) (by kernel_rfl) (by kernel_rfl) (by kernel_rfl)
    (says_of fun w hs => f67_ok hd hs 68 (by kernel_rfl) (fun n => !inR 1 1099511627776 n) f68_ok) ?_
  refine G.runT tab0_ok tm 100 ?_
  exact G.ret Try.func18 Try.results18 (.bool (entRight e)) (by kernel_rfl) fun w' hf _ => ⟨rfl, hf.below⟩
end idx
end Go.Proofs.Ytkjahaoobdbffaa

/- Messages and records that are right. -/
namespace Go.Proofs.Ytkjahaoobdbffaa
open Go Go.RowKit
attribute [local irreducible] G GD GDop

structure Rcd where
  kind : Int
  a : Int
  b : Int
  log : List Ent
  deriving DecidableEq

def rcdC (m : Rcd) (p : Value) : List Cell := [.int .i64 m.kind, .int .i64 m.a, .int .i64 m.b, .sl p m.log.length]
def rcdV (m : Rcd) (p : Value) : Value := .agg #[.int .i64 m.kind, .int .i64 m.a, .int .i64 m.b, p]
theorem rcdC_ok {h : GH} {m : Rcd} {p : Value} (hp : EntsR h p m.log) (N : Nat) (β : Nat → Nat) : SV1Ok N β (.agg (rcdC m p)) (rcdV m p) :=
  ⟨_, rfl, rfl, rfl, rfl, SlR.cell hp N β, trivial⟩

/-- From so many to so many right entries. -/
def logged (l : List Ent) (lo hi : Int) : Bool := decide ((l.length : Int) ≥ lo) && decide ((l.length : Int) ≤ hi) && !(l.any fun e => !entRight e)

/-- Is a message right? -/
def msgNums (m : Msg) : Bool :=
  inR 1 8 m.kind && inR 0 1099511627776 m.view && inR 0 1099511627776 m.normal && inR 0 6 m.frm && inR 0 6 m.to && inR 0 64 m.op && inR 0 64 m.commit
def msgRight (m : Msg) : Bool := msgNums m &&
  (if m.kind = 1 then logged m.log 1 1 else if m.kind = 5 ∨ m.kind = 6 ∨ m.kind = 8 then logged m.log 0 64 else ((m.log.length : Int) == 0))

def rcdRight (m : Rcd) : Bool := inR 1 5 m.kind && inR 0 1099511627776 m.a && inR 0 1099511627776 m.b && (if m.kind = 2 then logged m.log 1 1 else ((m.log.length : Int) == 0))

section r
variable {h : GH} {v : Value} {w : World}

theorem f136_ok {p d : Value} {e : Ent} (hp : SlR h 5 RulR p e.put) (hd : SlR h 1 IntR d e.drop) (hs : Sub h w) :
    Calls Try.prog 136 #[entV e p d] w fun e' w' => e' = .returned (.bool (!entRight e)) ∧ Below w.heap.size w w' := by
  refine Calls.enter [.agg (entC e p d)] Try.func136 (c := bodyOf Try.f136) (by kernel_rfl) Try.ntmps136 ⟨entC_ok hp hd _ _, trivial⟩ (by simp) hs ?_
  refine G.runE tm 100 ?_
  refine G.callV (f := 18) (svs := [.agg (entC e p d)]) (d := some 4) (by kernel_rfl) [entV e p d] (.bool (entRight e)) (by kernel_rfl) (by kernel_rfl) (by kernel_rfl) (fun w hs => f18_ok hp hd hs) ?_
  refine G.runE tm 100 ?_
  exact G.ret Try.func136 Try.results136 (.bool (!entRight e)) (by kernel_rfl) fun w' hf _ => ⟨rfl, hf.below⟩

theorem f149_ok {l : List Ent} (hl : EntsR h v l) (hs : Sub h w) (f : FuncId) (he : enters Try.prog f = true) (p : Ent → Bool)
    (hf : ∀ r a b w, SlR h 5 RulR a r.put → SlR h 1 IntR b r.drop → Sub h w → Calls Try.prog f #[entV r a b] w fun e w' => e = .returned (.bool (p r)) ∧ Below w.heap.size w w') :
    Calls Try.prog 149 #[v, fnV f] w fun e w' => e = .returned (.int .i64 (idxF p l)) ∧ Below w.heap.size w w' := by
  have hlen := SlR.len hl
  refine Calls.enter [.atom (.sl v l.length), .atom (.raw (fnV f))] Try.func149 (c := bodyOf Try.f149) (by kernel_rfl) Try.ntmps149 ⟨SlR.sv hl _ _, ⟨rfl, rfl⟩, trivial⟩ (by simp) hs ?_
  refine G.runE tm 100 ?_
  refine G.loop (α := Nat) (fun i => ⟨[(0, .one (.atom (.sl v l.length))), (1, .one (.atom (.raw (fnV f)))), (7, .one (.atom (.int .i64 l.length))), (8, .one (.atom (.int .i64 i)))], [], 0, []⟩)
    (fun i g => g = h ∧ i ≤ l.length ∧ (l.take i).any p = false) (fun i => l.length - i) 0 [0, 1, 7, 8] [] 0 [] (by kernel_rfl) (by kernel_rfl) (by kernel_rfl) ⟨rfl, Nat.zero_le _, by simp⟩ ?_
  rintro i g ⟨rfl, hi, hall⟩ IH
  refine G.runE tm 100 ?_
  refine G.cond (decide ((i : Int) < (l.length : Int))) (by kernel_rfl) (fun hb => ?_) (fun hb => ?_)
  · have hlt : i < l.length := by simpa using hb
    obtain ⟨r, hr⟩ := get_of_lt hlt
    refine G.runE tm 100 ?_
    refine G.idx (d1 := some 14) (g := none) (T := 22) (E := 34) hl Try.underlying22 z34 hlt (by kernel_rfl) (by kernel_rfl) ?_
    refine G.elEnt (d1 := some 15) (g := none) (E := 34) hl z34 u34 hr (by kernel_rfl) (by kernel_rfl) fun a b ha hb => ?_
    refine G.callV (f := f) (svs := [.agg (entC r a b)]) (d := some 16) (by kernel_rfl) [entV r a b] (.bool (p r)) (by kernel_rfl) he (by kernel_rfl) (fun w hs => hf r a b w ha hb hs) ?_
    refine G.runE tm 100 ?_
    refine G.cond (p r) (by kernel_rfl) (fun hb => ?_) (fun hb => ?_)
    · refine G.runE tm 100 ?_
      exact G.ret Try.func149 Try.results149 (.int .i64 i) (by kernel_rfl) fun w' hf _ => ⟨by rw [idxF_found hr hall hb], hf.below⟩
    · refine G.runE tm 100 ?_
      refine G.reint (k := .i64) 8 (by kernel_rfl) (wrap_succ hlt hlen) ?_
      exact G.back (by kernel_rfl) [0, 1, 7, 8] [] 0 [] (by kernel_rfl) (by kernel_rfl) (IH (i + 1) _ ⟨rfl, hlt, any_take_succ hr hall hb⟩ (by omega))
  · obtain rfl : i = l.length := by simp at hb; omega
    rw [List.take_length] at hall
    refine G.runE tm 100 ?_
    exact G.ret Try.func149 Try.results149 (.int .i64 (-1)) (by kernel_rfl) fun w' hf _ => ⟨by rw [idxF_none hall], hf.below⟩

theorem f121_ok {l : List Ent} (hl : EntsR h v l) (hs : Sub h w) (f : FuncId) (he : enters Try.prog f = true) (p : Ent → Bool)
    (hf : ∀ r a b w, SlR h 5 RulR a r.put → SlR h 1 IntR b r.drop → Sub h w → Calls Try.prog f #[entV r a b] w fun e w' => e = .returned (.bool (p r)) ∧ Below w.heap.size w w') :
    Calls Try.prog 121 #[v, fnV f] w fun e w' => e = .returned (.bool (l.any p)) ∧ Below w.heap.size w w' := by
  refine Calls.enter [.atom (.sl v l.length), .atom (.raw (fnV f))] Try.func121 (c := bodyOf Try.f121) (by kernel_rfl) Try.ntmps121 ⟨SlR.sv hl _ _, ⟨rfl, rfl⟩, trivial⟩ (by simp) hs ?_
  refine G.runE tm 100 ?_
  refine G.callV (f := 149) (svs := [.atom (.sl v l.length), .atom (.raw (fnV f))]) (d := some 7) (by kernel_rfl) [v, fnV f] (.int .i64 (idxF p l)) (by kernel_rfl) (by kernel_rfl) (by kernel_rfl) (fun w hs => f149_ok hl hs f he p hf) ?_
  refine G.runE tm 100 ?_
  exact G.ret Try.func121 Try.results121 (.bool (decide (idxF p l ≥ 0))) (by kernel_rfl) fun w' hf _ => ⟨by rw [idxF_any], hf.below⟩

theorem f97_ok {l : List Ent} {lo hi : Int} (hl : EntsR h v l) (hs : Sub h w) :
    Calls Try.prog 97 #[v, .int .i64 lo, .int .i64 hi] w fun e w' => e = .returned (.bool (logged l lo hi)) ∧ Below w.heap.size w w' := by
  refine Calls.enter [.atom (.sl v l.length), .atom (.int .i64 lo), .atom (.int .i64 hi)] Try.func97 (c := bodyOf Try.f97) (by kernel_rfl) Try.ntmps97 ⟨SlR.sv hl _ _, rfl, rfl, trivial⟩ (by simp) hs ?_
  refine G.runE tm 100 ?_
  refine G.callGV (f := 121) (svs := [.atom (.sl v l.length), .atom (.raw (fnV 136))]) (d := 19) (tg := 17) (want := true) (by kernel_rfl) [v, fnV 136] (.bool (l.any fun e => !entRight e)) (by kernel_rfl) (by kernel_rfl) (by kernel_rfl)
    (says_of fun w hs => f121_ok hl hs 136 (by kernel_rfl) (fun e => !entRight e) fun r a b w ha hb hs => f136_ok ha hb hs) ?_
  refine G.runE tm 100 ?_
  exact G.ret Try.func97 Try.results97 (.bool (logged l lo hi)) (by kernel_rfl) fun w' hf _ => ⟨rfl, hf.below⟩

def msgBad (m : Msg) : Bool :=
  decide (m.kind < 1) || decide (m.kind > 8) || !inR 0 1099511627776 m.view || !inR 0 1099511627776 m.normal || decide (m.frm < 0) || decide (m.frm > 6) || decide (m.to < 0) || decide (m.to > 6) ||
    decide (m.op < 0) || decide (m.op > 64) || decide (m.commit < 0) || decide (m.commit > 64)

theorem msgNums_bad (m : Msg) : msgNums m = !msgBad m := by
  unfold msgNums msgBad inR
  rw [Bool.eq_iff_iff]
  simp
  omega

theorem f40_ok {p : Value} {m : Msg} (hp : EntsR h p m.log) (hs : Sub h w) :
    Calls Try.prog 40 #[msgV m p] w fun e w' => e = .returned (.bool (msgRight m)) ∧ Below w.heap.size w w' := by
  refine Calls.enter [.agg (msgC m p)] Try.func40 (c := bodyOf Try.f40) (by kernel_rfl) Try.ntmps40 ⟨msgC_ok hp _ _, trivial⟩ (by simp) hs ?_
  refine G.runT tab0_ok tm 100 ?_
  refine G.cond (msgBad m) (by kernel_rfl) (fun hb => ?_) (fun hb => ?_)
  · refine G.runE tm 100 ?_
    refine G.ret Try.func40 Try.results40 (.bool false) (by kernel_rfl) fun w' hf _ => ⟨?_, hf.below⟩
    rw [msgRight, msgNums_bad, hb]; rfl
  have hn : msgNums m = true := by rw [msgNums_bad, hb]; rfl
  refine G.runE tm 100 ?_
  refine G.cond (m.kind == 1) (by kernel_rfl) (fun h1 => ?_) (fun h1 => ?_)
  · refine G.runE tm 100 ?_
    refine G.callV (f := 97) (svs := [.atom (.sl p m.log.length), .atom (.int .i64 1), .atom (.int .i64 1)]) (d := some 69) (by kernel_rfl) [p, .int .i64 1, .int .i64 1] (.bool (logged m.log 1 1)) (by kernel_rfl) (by kernel_rfl) (by kernel_rfl) (fun w hs => f97_ok hp hs) ?_
    refine G.runE tm 100 ?_
    refine G.ret Try.func40 Try.results40 (.bool (logged m.log 1 1)) (by kernel_rfl) fun w' hf _ => ⟨?_, hf.below⟩
    simp only [beq_iff_eq] at h1
    simp [msgRight, hn, h1]
  refine G.runE tm 100 ?_
  simp only [beq_eq_false_iff_ne, ne_eq] at h1
  refine G.cond (m.kind == 5) (by kernel_rfl) (fun h5 => ?_) (fun h5 => ?_)
  · simp only [beq_iff_eq] at h5
    refine G.runE tm 100 ?_
    refine G.condT (b := m.kind == 5) (by kernel_rfl) (by simp [h5]) ?_
    refine G.runE tm 100 ?_
    refine G.callV (f := 97) (svs := [.atom (.sl p m.log.length), .atom (.int .i64 0), .atom (.int .i64 64)]) (d := some 76) (by kernel_rfl) [p, .int .i64 0, .int .i64 64] (.bool (logged m.log 0 64)) (by kernel_rfl) (by kernel_rfl) (by kernel_rfl) (fun w hs => f97_ok hp hs) ?_
    refine G.runE tm 100 ?_
    refine G.ret Try.func40 Try.results40 (.bool (logged m.log 0 64)) (by kernel_rfl) fun w' hf _ => ⟨?_, hf.below⟩
    simp [msgRight, hn, h5]
  refine G.runE tm 100 ?_
  simp only [beq_eq_false_iff_ne, ne_eq] at h5
  refine G.cond (m.kind == 6) (by kernel_rfl) (fun h6 => ?_) (fun h6 => ?_)
  · simp only [beq_iff_eq] at h6
    refine G.runE tm 100 ?_
    refine G.condT (b := m.kind == 6) (by kernel_rfl) (by simp [h6]) ?_
    refine G.runE tm 100 ?_
    refine G.callV (f := 97) (svs := [.atom (.sl p m.log.length), .atom (.int .i64 0), .atom (.int .i64 64)]) (d := some 76) (by kernel_rfl) [p, .int .i64 0, .int .i64 64] (.bool (logged m.log 0 64)) (by kernel_rfl) (by kernel_rfl) (by kernel_rfl) (fun w hs => f97_ok hp hs) ?_
    refine G.runE tm 100 ?_
    refine G.ret Try.func40 Try.results40 (.bool (logged m.log 0 64)) (by kernel_rfl) fun w' hf _ => ⟨?_, hf.below⟩
    simp [msgRight, hn, h6]
  refine G.runE tm 100 ?_
  simp only [beq_eq_false_iff_ne, ne_eq] at h6
  refine G.cond (m.kind == 8) (by kernel_rfl) (fun h8 => ?_) (fun h8 => ?_)
  · simp only [beq_iff_eq] at h8
    refine G.runE tm 100 ?_
    refine G.callV (f := 97) (svs := [.atom (.sl p m.log.length), .atom (.int .i64 0), .atom (.int .i64 64)]) (d := some 76) (by kernel_rfl) [p, .int .i64 0, .int .i64 64] (.bool (logged m.log 0 64)) (by kernel_rfl) (by kernel_rfl) (by kernel_rfl) (fun w hs => f97_ok hp hs) ?_
    refine G.runE tm 100 ?_
    refine G.ret Try.func40 Try.results40 (.bool (logged m.log 0 64)) (by kernel_rfl) fun w' hf _ => ⟨?_, hf.below⟩
    simp [msgRight, hn, h8]
  · simp only [beq_eq_false_iff_ne, ne_eq] at h8
    refine G.runE tm 100 ?_
    refine G.ret Try.func40 Try.results40 (.bool ((m.log.length : Int) == 0)) (by kernel_rfl) fun w' hf _ => ⟨?_, hf.below⟩
    simp [msgRight, hn, h1, h5, h6, h8]

def rcdBad (m : Rcd) : Bool := decide (m.kind < 1) || decide (m.kind > 5) || !inR 0 1099511627776 m.a || !inR 0 1099511627776 m.b

theorem f111_ok {p : Value} {m : Rcd} (hp : EntsR h p m.log) (hs : Sub h w) :
    Calls Try.prog 111 #[rcdV m p] w fun e w' => e = .returned (.bool (rcdRight m)) ∧ Below w.heap.size w w' := by
  refine Calls.enter [.agg (rcdC m p)] Try.func111 (c := bodyOf Try.f111) (by kernel_rfl) Try.ntmps111 ⟨rcdC_ok hp _ _, trivial⟩ (by simp) hs ?_
  have hN : (inR 1 5 m.kind && inR 0 1099511627776 m.a && inR 0 1099511627776 m.b) = !rcdBad m := by
    unfold rcdBad inR
    rw [Bool.eq_iff_iff]
    simp
  refine G.runT tab0_ok tm 100 ?_
  refine G.cond (rcdBad m) (by kernel_rfl) (fun hb => ?_) (fun hb => ?_)
  · refine G.runE tm 100 ?_
    refine G.ret Try.func111 Try.results111 (.bool false) (by kernel_rfl) fun w' hf _ => ⟨?_, hf.below⟩
    rw [rcdRight, hN, hb]; rfl
  refine G.runE tm 100 ?_
  refine G.cond (m.kind == 2) (by kernel_rfl) (fun h2 => ?_) (fun h2 => ?_)
  · refine G.runE tm 100 ?_
    refine G.callV (f := 97) (svs := [.atom (.sl p m.log.length), .atom (.int .i64 1), .atom (.int .i64 1)]) (d := some 28) (by kernel_rfl) [p, .int .i64 1, .int .i64 1] (.bool (logged m.log 1 1)) (by kernel_rfl) (by kernel_rfl) (by kernel_rfl) (fun w hs => f97_ok hp hs) ?_
    refine G.runE tm 100 ?_
    refine G.ret Try.func111 Try.results111 (.bool (logged m.log 1 1)) (by kernel_rfl) fun w' hf _ => ⟨?_, hf.below⟩
    simp only [beq_iff_eq] at h2
    rw [rcdRight, hN, hb]; simp [h2]
  · refine G.runE tm 100 ?_
    refine G.ret Try.func111 Try.results111 (.bool ((m.log.length : Int) == 0)) (by kernel_rfl) fun w' hf _ => ⟨?_, hf.below⟩
    simp only [beq_eq_false_iff_ne, ne_eq] at h2
    rw [rcdRight, hN, hb]; simp [h2]
end r
end Go.Proofs.Ytkjahaoobdbffaa

/- The base of this seat's proofs, eleventh part: append onto slices of the call's own; what is not written any more. -/
namespace Go.Proofs.Ytkjahaoobdbffaa
open Go Go.RowKit

/-- What there is to know of a slice type and its elements. -/
structure ElT (P : Program) (T e : TypeId) (sz by_ : Nat) : Prop where
  hT : P.underlying T = some (.slice e)
  hz : ∃ i z, P.info? e = some i ∧ i.zero = some z ∧ i.size = sz ∧ i.bytes = by_ ∧ z.cells.size = sz
  pos : 0 < sz

def elTOk (P : Program) (e : TypeId) (sz by_ : Nat) : Bool := match P.info? e with
  | some i => (match i.zero with
    | some z => i.size == sz && i.bytes == by_ && z.cells.size == sz
    | none => false)
  | none => false

theorem ElT.of {P : Program} {T e : TypeId} {sz by_ : Nat} (hT : P.underlying T = some (.slice e)) (hk : elTOk P e sz by_ = true) (pos : 0 < sz) : ElT P T e sz by_ := by
  refine ⟨hT, ?_, pos⟩
  unfold elTOk at hk
  split at hk
  next i hi =>
    split at hk
    next z hz =>
      simp only [Bool.and_eq_true, beq_iff_eq] at hk
      exact ⟨i, z, hi, hz, hk.1.1, hk.1.2, hk.2⟩
    · simp at hk
  · simp at hk

def setOwn (k : Nat) (o : Own) (s : S) : S := { s with owns := (k, o) :: s.owns }

section sim
variable {P : Program} {hE : GH} {w0 : World} {inc : List Nat} {n : Nat} {s : S} {h : GH} {β : Nat → Nat} {w : World} {tmps : Array Value}

/-- An own slice has become another one, in its old block or in a new one. -/
theorem Sim.reown (hS : Sim hE w0 inc n s h β w tmps) {k : Nat} {o o' : Own} {w' : World} (hk : ow k s.owns = some o) (hg : w.grownBy w' o.v.ownBlock) (ho' : w'.ownsRow 0 o'.e o'.sz o'.v o'.n o'.xs)
    (hb : o'.v.ownBlock = o.v.ownBlock ∨ o'.v.ownBlock = some w.heap.size) : Sim hE w0 inc n (setOwn k o' s) h β w' tmps := by
  have hblk : ∀ x, x < w.heap.size → o.v.ownBlock ≠ some x → w'.heap[x]? = w.heap[x]? := fun x hx hne => hg.block x hx (fun e => hne e.symm)
  have hown : ∀ b, o.v.ownBlock = some b → h b = none ∧ (∀ j x, bx j s.boxes = some x → β j ≠ b) ∧ (b ∈ inc ∨ w0.heap.size ≤ b) := fun b hb => hS.ownB k o b hk hb
  refine ⟨hS.size, hS.slots, ?_, hS.inj, hS.keys, hS.fresh, ?_, hS.gno, ?_, hS.gle, hS.gold, ?_, ?_, ?_⟩
  · intro j b hj
    exact (hS.box j b hj).of_block (hblk _ (hS.box j b hj).lt fun e => (hown _ e).2.1 j b hj rfl)
  · intro b ob hbo
    have h1 := hS.ghost b ob hbo
    rw [hblk b (Array.getElem?_eq_some_iff.1 h1).1 fun e => by rw [(hown b e).1] at hbo; cases hbo]
    exact h1
  · refine ⟨hg.os.trans hS.frame.os, hg.tape.trans hS.frame.tape, hg.output.trans hS.frame.output, Nat.le_trans hS.frame.size hg.size, fun b hb hn => ?_⟩
    rw [hblk b (Nat.lt_of_lt_of_le hb hS.frame.size) fun e => by
      rcases (hown b e).2.2 with h1 | h1
      · exact hn h1
      · omega]
    exact hS.frame.block b hb hn
  · intro l p hl
    simp only [setOwn, ow_cons] at hl
    split at hl
    · simp only [Option.some.injEq] at hl; subst hl; exact ho'
    · rename_i hne
      refine ownsRow_of_block (hS.own l p hl) fun b hb' => hblk b (ownsRow_lt (hS.own l p hl) hb') fun e => ?_
      exact hS.ownI k l o p b hk hl hne e hb'
  · intro l p b hl hb'
    simp only [setOwn, ow_cons] at hl
    split at hl
    · simp only [Option.some.injEq] at hl; subst hl
      rcases hb with hb | hb
      · exact hown b (hb ▸ hb')
      · rw [hb] at hb'; injection hb' with hb'; subst hb'
        refine ⟨?_, fun j x hj => ?_, .inr hS.frame.size⟩
        · cases hh : h w.heap.size with
          | none => rfl
          | some ob => have := (Array.getElem?_eq_some_iff.1 (hS.ghost _ ob hh)).1; omega
        · have := (hS.box j x hj).lt; omega
    · exact hS.ownB l p b hl hb'
  · intro l m p q b hl hm hlm hb'
    simp only [setOwn, ow_cons] at hl hm
    split at hl <;> split at hm
    · omega
    · rename_i e1 e2; subst e1
      simp only [Option.some.injEq] at hl; subst hl
      rcases hb with hb | hb
      · exact hS.ownI k m o q b hk hm hlm (hb ▸ hb')
      · rw [hb] at hb'; injection hb' with hb'; subst hb'
        intro e
        have := ownsRow_lt (hS.own m q hm) e
        omega
    · rename_i e1 e2; subst e2
      simp only [Option.some.injEq] at hm; subst hm
      intro e
      rcases hb with hb | hb
      · exact hS.ownI k l o p b hk hl (fun x => hlm x.symm) (hb ▸ e) hb'
      · rw [hb] at e; injection e with e; subst e
        have := ownsRow_lt (hS.own l p hl) hb'
        omega
    · exact hS.ownI l m p q b hl hm hlm hb'

/-- A slice of the call's own is looked at as one from now on. -/
theorem Sim.addOwn (hS : Sim hE w0 inc n s h β w tmps) {k : Nat} {o : Own} (ho : w.ownsRow 0 o.e o.sz o.v o.n o.xs)
    (hb : ∀ b, o.v.ownBlock = some b → h b = none ∧ (∀ j x, bx j s.boxes = some x → β j ≠ b) ∧ (b ∈ inc ∨ w0.heap.size ≤ b) ∧ ∀ l p, ow l s.owns = some p → p.v.ownBlock ≠ some b) : Sim hE w0 inc n (setOwn k o s) h β w tmps := by
  refine ⟨hS.size, hS.slots, hS.box, hS.inj, hS.keys, hS.fresh, hS.ghost, hS.gno, hS.frame, hS.gle, hS.gold, ?_, ?_, ?_⟩
  · intro l p hl
    simp only [setOwn, ow_cons] at hl
    split at hl
    · simp only [Option.some.injEq] at hl; subst hl; exact ho
    · exact hS.own l p hl
  · intro l p b hl hb'
    simp only [setOwn, ow_cons] at hl
    split at hl
    · simp only [Option.some.injEq] at hl; subst hl
      exact ⟨(hb b hb').1, (hb b hb').2.1, (hb b hb').2.2.1⟩
    · exact hS.ownB l p b hl hb'
  · intro l m p q b hl hm hlm hb'
    simp only [setOwn, ow_cons] at hl hm
    split at hl <;> split at hm
    · omega
    · simp only [Option.some.injEq] at hl; subst hl
      exact (hb b hb').2.2.2 m q hm
    · simp only [Option.some.injEq] at hm; subst hm
      intro e
      exact (hb b e).2.2.2 l p hl hb'
    · exact hS.ownI l m p q b hl hm hlm hb'
end sim

/-- nil is a slice of one's own. -/
theorem G.ownNil {C : Ctx} {h : GH} {c : Cfg} (k : Nat) (e : TypeId) (sz : Nat) (hG : G C h ⟨c.todo, setOwn k ⟨e, sz, .slice none 0 0, 0, []⟩ c.s⟩) : G C h c := by
  intro β w tmps hS
  exact hG β w tmps (hS.addOwn (World.ownsRow_nil w 0 e sz) fun b hb => by simp [Value.ownBlock] at hb)

/-! ### append -/

structure AppView where
  T : TypeId
  U : TypeId
  s : SV1
  x : SV1
  dst : Option Nat

def appOf (s : S) (o : Oper) : Option AppView :=
  match o.op with
  | .call ⟨.builtin .append, args, types⟩ => match o.guard with
    | none => match args.toList, types.toList with
      | [a, b], [T, U] => match evS s [] a, evS s [] b with
        | some x, some y => some ⟨T, U, x, y, o.dst⟩
        | _, _ => none
      | _, _ => none
    | _ => none
  | _ => none

theorem appOf_ok {P : Program} {hE : GH} {w0 : World} {inc : List Nat} {n : Nat} {s : S} {h : GH} {β : Nat → Nat} {w : World} {tmps : Array Value} (hS : Sim hE w0 inc n s h β w tmps) {o : Oper} {T U : TypeId} {x y : SV1} {d : Option Nat} (ha : appOf s o = some ⟨T, U, x, y, d⟩) :
    o.guard = none ∧ d = o.dst ∧ ∃ a b : Value, SV1Ok s.nb β x a ∧ SV1Ok s.nb β y b ∧ ∀ v w', (Builtin.append_ #[T, U] o.type #[a, b]).run P w = .ok v w' → (execOp (evT tmps) o).run P w = .ok (.value v) w' := by
  unfold appOf at ha
  split at ha
  · rename_i args types hop
    split at ha
    · rename_i hg
      split at ha
      · rename_i a b T' U' h1 h2
        have h1' : args = #[a, b] := by apply Array.ext'; simpa using h1
        have h2' : types = #[T', U'] := by apply Array.ext'; simpa using h2
        subst h1' h2'
        split at ha
        · rename_i x' y' hx hy
          simp only [Option.some.injEq, AppView.mk.injEq] at ha
          obtain ⟨rfl, rfl, rfl, rfl, rfl⟩ := ha
          refine ⟨hg, rfl, _, _, evS_ok hS GOk.nil hx, evS_ok hS GOk.nil hy, fun v w' hr => ?_⟩
          simp [execOp, hop, resolve, invoke, builtin, hr]
        · simp at ha
      · simp at ha
    · simp at ha
  · simp at ha

def opAtC (c : Cfg) : Option Oper := match c.todo with
  | .inRegion ops (i :: _) :: _ => ops[i]?
  | _ => none

def appView (c : Cfg) : Option AppView := match opAtC c with
  | some o => appOf c.s o
  | none => none

/-- An operation that is not computed, whatever it does. -/
theorem G.opR {C : Ctx} {h : GH} {c : Cfg} {o : Oper} (ho : opAtC c = some o) (hg : o.guard = none) (hd : dstOk C.n o.dst = true)
    (H : ∀ β w tmps, Sim C.hE C.w0 C.inc C.n c.s h β w tmps → ∃ u w' β' h' s' sv, (execOp (evT tmps) o).run C.P w = .ok (.value u) w' ∧ Sim C.hE C.w0 C.inc C.n s' h' β' w' tmps ∧ (∀ tmps', SVOk s'.nb β' tmps' sv u) ∧ G C h' (afterOp (withS c s') sv)) : G C h c := by
  intro β w tmps hS
  obtain ⟨todo, s⟩ := c
  unfold opAtC at ho
  simp only at ho
  split at ho
  · rename_i ops i rest k
    obtain ⟨u, w', β', h', s', sv, hrun, hS', hsv, hG⟩ := H β w tmps hS
    refine Reach.value ho (by simp [Region.wanted, hg]) hrun ?_
    rw [put_tmps]
    have := hG β' w' (putT tmps o.dst u)
    simp only [afterOp, withS, ho, Option.bind_some] at this
    exact this (hS'.putD hd fun d _ => hsv _)
  · simp at ho

theorem GDop.opR {C : Ctx} {h0 h : GH} {ops : Array Oper} {k : List Item} {ks : List Nat} {d : DCfg} {i : Nat} {o : Oper} (hi : ops[i]? = some o) (hg : o.guard = none) (hd : dstOk C.n o.dst = true)
    (H : ∀ β w tmps, Sim C.hE C.w0 C.inc C.n d.s h β w tmps → ∃ u w' β' h' s' sv, (execOp (evT tmps) o).run C.P w = .ok (.value u) w' ∧ Sim C.hE C.w0 C.inc C.n s' h' β' w' tmps ∧ (∀ tmps', SVOk s'.nb β' tmps' sv u) ∧ GLe h h' ∧
      (∀ x ∈ ks, (∃ b, bx x d.s.boxes = some b) → β' x = β x ∧ w'.heap[β x]? = w.heap[β x]? ∧ ∃ b, bx x s'.boxes = some b) ∧ GD C h0 h' ops k ks (afterN ops d i s' sv)) : GDop C h0 h ops k ks d i := by
  intro β w tmps L hS hL hlive hle
  obtain ⟨u, w', β', h', s', sv, hrun, hS', hsv, hle', hks, hG⟩ := H β w tmps hS
  have hL' : L = ks.map (fun x => (β' x, w'.heap[β' x]?)) := by
    rw [hL]
    refine List.map_congr_left fun x hx => ?_
    obtain ⟨h1, h2, -⟩ := hks x hx (hlive x hx)
    rw [h1, h2]
  refine wpOp_value hi (by simp [Region.wanted, hg]) hrun ⟨by rw [hL']; exact Stays.of_sim hS' (hle.trans hle') ks, ?_⟩
  rw [act_put]
  have := hG β' w' (putT tmps o.dst u) L
  simp only [afterN, nextD, hi, Option.bind_some] at this
  exact this (hS'.putD hd fun d _ => hsv _) hL' (fun x hx => by simp only [putS_boxes]; exact (hks x hx (hlive x hx)).2.2) (hle.trans hle')

/-- What an append of new cells to a slice of the call's own comes to. -/
theorem app_own {P : Program} {hE : GH} {w0 : World} {inc : List Nat} {n : Nat} {s : S} {h : GH} {β : Nat → Nat} {w : World} {tmps : Array Value} (hS : Sim hE w0 inc n s h β w tmps) {T e ty : TypeId} {sz by_ : Nat} (hEl : ElT P T e sz by_) {k : Nat} {v : Value} {m : Nat} {xs : List Value}
    (ho : ow k s.owns = some ⟨e, sz, v, m, xs⟩) {a : Addr} {q c : Nat} {news : List Value} (hl : news.length = q * sz) (hnews : ∀ j u, news[j]? = some u → w.cell? (a.add j) = some u) (h1 : ∀ u ∈ news, u.oneCell' = true)
    (hmax : m + q ≤ 140737488351232) (hby : (m + q) * by_ ≤ 140737488355328) :
    ∃ v' w', (Builtin.append_ #[T, T] ty #[v, .slice (some a) q c]).run P w = .ok v' w' ∧ (∃ a' c', v' = .slice a' (m + q) c') ∧ Sim hE w0 inc n (setOwn k ⟨e, sz, v', m + q, xs ++ news⟩ s) h β w' tmps ∧ w.grownBy w' v.ownBlock ∧ (0 < q → v'.ownBlock ≠ none) := by
  obtain ⟨i, z, hi, hz, hsz, hb, hzs⟩ := hEl.hz
  have hrow := hS.own k _ ho
  simp only at hrow
  obtain ⟨v', w', hr, h2, h3, h4, h5⟩ := run_append_own_at (P := P) w 0 T ty e i z sz by_ hEl.hT hi hz hsz hb hzs hEl.pos v m xs hrow a q c news hl hnews h1 (by unfold maxLen; omega) hby (Nat.zero_le _)
  refine ⟨v', w', hr, ?_, hS.reown ho h3 h2 h5, h3, fun hq => ?_⟩
  · rcases h2.2 with ⟨rfl, h0⟩ | ⟨g, cap, cur, rfl, _⟩
    · exact ⟨none, 0, by rw [h0]⟩
    · exact ⟨_, _, rfl⟩
  · rcases h2.2 with ⟨rfl, h0⟩ | ⟨g, cap, cur, rfl, _⟩
    · omega
    · simp [Value.ownBlock]

/-- The cells of a block that is known, as an append's source. -/
theorem lit_src {N : Nat} {β : Nat → Nat} {w : World} {b off : Nat} {T : TypeId} {cs : List Cell} {news : List Value} (hb : BoxOk N β w b (.lit T cs)) (hv : cellVals (cs.drop off) = some news) :
    ∀ j u, news[j]? = some u → w.cell? ((⟨b, off, none⟩ : Addr).add j) = some u := by
  obtain ⟨arr, h1, h2⟩ := hb
  have h3 := cellVals_ok hv (h2.drop off)
  intro j u hj
  rw [Addr.add_lit, cell_of_heap h1]
  rw [← h3, List.getElem?_drop] at hj
  simpa using hj

theorem cellVals_oneCell {N : Nat} {β : Nat → Nat} {cs : List Cell} {vs : List Value} (hv : cellVals cs = some vs) {us : List Value} (hu : CellsOk N β cs us) : ∀ u ∈ vs, u.oneCell' = true := by
  have := cellVals_ok hv hu
  subst this
  refine CellsOk.oneCell hu fun c hc => ?_
  rintro rfl
  clear hu
  induction cs generalizing us with
  | nil => cases hc
  | cons x cs ih =>
    simp only [cellVals] at hv
    split at hv
    · rename_i v vs h1 h2
      simp only [List.mem_cons] at hc
      rcases hc with rfl | hc
      · simp [Cell.val] at h1
      · exact ih h2 hc
    · simp at hv

/-- **append of a literal's elements to a slice of the call's own.** -/
theorem G.appLit {C : Ctx} {h : GH} {c : Cfg} {T e : TypeId} {sz by_ : Nat} (hEl : ElT C.P T e sz by_) (k : Nat) {v : Value} {m : Nat} {xs : List Value} {kx q q' : Nat} {d : Option Nat} (ha : appView c = some ⟨T, T, .atom (.sl v m), .atom (.bsl kx 0 q q'), d⟩) (hd : dstOk C.n d = true)
    (ho : ow k c.s.owns = some ⟨e, sz, v, m, xs⟩) {bi : Option Nat} {e' : TypeId} {cs : List Cell} (hb : bx kx c.s.boxes = some ⟨bi, .lit e' cs⟩) {news : List Value} (hv : cellVals cs = some news) (hl : news.length = q * sz)
    (hmax : m + q ≤ 140737488351232) (hby : (m + q) * by_ ≤ 140737488355328)
    (hk : ∀ v', (0 < q → v'.ownBlock ≠ none) → G C h (afterOp (withS c (setOwn k ⟨e, sz, v', m + q, xs ++ news⟩ c.s)) (.one (.atom (.sl v' (m + q)))))) : G C h c := by
  unfold appView at ha
  split at ha
  · rename_i o hop
    have hs : ∀ β w tmps, Sim C.hE C.w0 C.inc C.n c.s h β w tmps → o.guard = none ∧ d = o.dst := fun β w tmps hS => let ⟨a, b, _⟩ := appOf_ok (P := C.P) hS ha; ⟨a, b⟩
    intro β w tmps hS
    obtain ⟨hg, hdd⟩ := hs β w tmps hS
    refine G.opR hop hg (hdd ▸ hd) ?_ β w tmps hS
    intro β w tmps hS
    obtain ⟨_, _, a, b, hav, hbv, hrun⟩ := appOf_ok (P := C.P) hS ha
    simp only [SV1Ok, CellOk] at hav hbv
    obtain ⟨rfl, _⟩ := hav
    obtain ⟨rfl, _⟩ := hbv
    have hbox := hS.box _ _ hb
    have hbox' := hbox
    obtain ⟨arr, _, hcs⟩ := hbox'
    obtain ⟨v', w', h1, h2, h3, h4, h5⟩ := app_own hS hEl (ty := o.type) ho hl (lit_src (off := 0) hbox (by simpa using hv)) (cellVals_oneCell hv hcs) hmax hby (c := q')
    exact ⟨v', w', β, h, _, .one (.atom (.sl v' (m + q))), hrun _ _ h1, h3, fun tmps' => ⟨rfl, h2⟩, hk v' h5⟩
  · simp at ha

def appAtD (ops : Array Oper) (d : DCfg) (i : Nat) : Option AppView := match ops[i]? with
  | some o => appOf d.s o
  | none => none

/-- The same inside a region of open order. -/
theorem GDop.appLit {C : Ctx} {h0 h : GH} {ops : Array Oper} {kk : List Item} {ks : List Nat} {dd : DCfg} {i : Nat} {T e : TypeId} {sz by_ : Nat} (hEl : ElT C.P T e sz by_) (k : Nat) {v : Value} {m : Nat} {xs : List Value} {kx q q' : Nat} {d : Option Nat} (ha : appAtD ops dd i = some ⟨T, T, .atom (.sl v m), .atom (.bsl kx 0 q q'), d⟩) (hd : dstOk C.n d = true)
    (ho : ow k dd.s.owns = some ⟨e, sz, v, m, xs⟩) {bi : Option Nat} {e' : TypeId} {cs : List Cell} (hb : bx kx dd.s.boxes = some ⟨bi, .lit e' cs⟩) {news : List Value} (hv : cellVals cs = some news) (hl : news.length = q * sz)
    (hmax : m + q ≤ 140737488351232) (hby : (m + q) * by_ ≤ 140737488355328)
    (hk : ∀ v', (0 < q → v'.ownBlock ≠ none) → GD C h0 h ops kk ks (afterN ops dd i (setOwn k ⟨e, sz, v', m + q, xs ++ news⟩ dd.s) (.one (.atom (.sl v' (m + q)))))) : GDop C h0 h ops kk ks dd i := by
  unfold appAtD at ha
  split at ha
  case h_2 => simp at ha
  rename_i o hi
  intro β w tmps L hS
  obtain ⟨hg, hdd, _⟩ := appOf_ok (P := C.P) hS ha
  refine GDop.opR hi hg (hdd ▸ hd) ?_ β w tmps L hS
  intro β w tmps hS
  obtain ⟨_, _, a, b, hav, hbv, hrun⟩ := appOf_ok (P := C.P) hS ha
  simp only [SV1Ok, CellOk] at hav hbv
  obtain ⟨rfl, _⟩ := hav
  obtain ⟨rfl, _⟩ := hbv
  have hbox := hS.box _ _ hb
  have hbox' := hbox
  obtain ⟨arr, _, hcs⟩ := hbox'
  obtain ⟨v', w', h1, h2, h3, h4, h5⟩ := app_own hS hEl (ty := o.type) ho hl (lit_src (off := 0) hbox (by simpa using hv)) (cellVals_oneCell hv hcs) hmax hby (c := q')
  refine ⟨v', w', β, h, _, .one (.atom (.sl v' (m + q))), hrun _ _ h1, h3, fun tmps' => ⟨rfl, h2⟩, GLe.refl h, fun x hx => ?_, hk v' h5⟩
  rintro ⟨bb, hbb⟩
  exact ⟨rfl, h4.block _ (hS.box x bb hbb).lt fun e => (hS.ownB k _ _ ho e.symm).2.1 x bb hbb rfl, bb, hbb⟩

/-! ### What is not written any more -/

def dropOwn (k : Nat) : List (Nat × Own) → List (Nat × Own)
  | [] => []
  | (x, o) :: l => if Nat.beq x k then dropOwn k l else (x, o) :: dropOwn k l

theorem ow_drop {k l : Nat} {o : Own} : ∀ {os : List (Nat × Own)}, ow l (dropOwn k os) = some o → ow l os = some o ∧ l ≠ k := by
  intro os
  induction os with
  | nil => intro h; simp [dropOwn, ow] at h
  | cons p os ih =>
    obtain ⟨x, q⟩ := p
    intro h
    simp only [dropOwn] at h
    by_cases hx : Nat.beq x k = true
    · rw [if_pos hx] at h
      have := ih h
      rw [ow_cons, if_neg (fun e => this.2 (by rw [← e]; exact Nat.eq_of_beq_eq_true hx))]
      exact this
    · rw [if_neg hx, ow_cons] at h
      rw [ow_cons]
      split
      · rename_i e
        rw [if_pos e] at h
        exact ⟨h, fun e' => hx (nbeq_iff.2 (e.trans e'))⟩
      · rename_i e
        rw [if_neg e] at h
        exact ih h

/-- A slice's cells, known row by row. -/
def ListR {α : Type} (sz : Nat) (R : List Value → α → Prop) (xs : List Value) (l : List α) : Prop :=
  xs.length = l.length * sz ∧ ∀ i x, l[i]? = some x → R ((xs.drop (i * sz)).take sz) x

theorem ListR.nil {α : Type} {sz : Nat} {R : List Value → α → Prop} : ListR sz R [] ([] : List α) := ⟨by simp, fun i x h => by simp at h⟩

theorem ListR.snoc {α : Type} {sz : Nat} {R : List Value → α → Prop} {xs : List Value} {l : List α} (h : ListR sz R xs l) {news : List Value} {x : α} (hn : news.length = sz) (hx : R news x) : ListR sz R (xs ++ news) (l ++ [x]) := by
  obtain ⟨h1, h2⟩ := h
  refine ⟨by simp [h1, hn, Nat.add_mul], fun i y hy => ?_⟩
  by_cases hi : i < l.length
  · rw [List.getElem?_append_left hi] at hy
    have hle : (i + 1) * sz ≤ l.length * sz := Nat.mul_le_mul_right _ hi
    rw [Nat.add_mul, Nat.one_mul] at hle
    rw [List.drop_append_of_le_length (by omega), List.take_append_of_le_length (by rw [List.length_drop]; omega)]
    exact h2 i y hy
  · have hi' : i = l.length := by
      have := (List.getElem?_eq_some_iff.1 hy).1
      simp at this; omega
    subst hi'
    simp at hy; subst hy
    rw [← h1, List.drop_left, List.take_of_length_le (by omega)]
    exact hx

theorem ListR.mono {α : Type} {sz : Nat} {R R' : List Value → α → Prop} {xs : List Value} {l : List α} (h : ListR sz R xs l) (hR : ∀ cs x, R cs x → R' cs x) : ListR sz R' xs l := ⟨h.1, fun i x hx => hR _ _ (h.2 i x hx)⟩

/-- What nobody writes any more is told apart. -/
theorem G.freeze {C : Ctx} {h : GH} {c : Cfg} (k : Nat) {e : TypeId} {sz : Nat} {v : Value} {m : Nat} {xs : List Value} (ho : ow k c.s.owns = some ⟨e, sz, v, m, xs⟩)
    (hk : ∀ h', GLe h h' → (v = .slice none 0 0 ∧ m = 0 ∨ ∃ g cap cur, v = .slice (some ⟨g, 0, none⟩) m cap ∧ m ≤ cap ∧ h' g = some (.cells cur e (0, 0)) ∧ cur.size = cap * sz ∧ cur.toList.take (m * sz) = xs) →
      xs.length = m * sz → G C h' ⟨c.todo, { c.s with owns := dropOwn k c.s.owns }⟩) : G C h c := by
  intro β w tmps hS
  obtain ⟨hlen, hrow⟩ := hS.own k _ ho
  simp only at hlen hrow
  rcases hrow with ⟨rfl, rfl⟩ | ⟨g, cap, cur, rfl, _, hg, hmc, hcm, hcs, htake⟩
  · refine hk h (GLe.refl h) (.inl ⟨rfl, rfl⟩) hlen β w tmps ⟨hS.size, hS.slots, hS.box, hS.inj, hS.keys, hS.fresh, hS.ghost, hS.gno, hS.frame, hS.gle, hS.gold, ?_, ?_, ?_⟩
    · exact fun l p hl => hS.own l p (ow_drop hl).1
    · exact fun l p b hl => hS.ownB l p b (ow_drop hl).1
    · exact fun l m p q b hl hm => hS.ownI l m p q b (ow_drop hl).1 (ow_drop hm).1
  · obtain ⟨hn, hβ, hin⟩ := hS.ownB k _ g ho rfl
    refine hk (fun b => if b = g then some (.cells cur e (0, 0)) else h b) (fun b o hb => ?_) (.inr ⟨g, cap, cur, rfl, hmc, by simp, hcs, htake⟩) hlen β w tmps ⟨hS.size, hS.slots, hS.box, hS.inj, hS.keys, hS.fresh, ?_, ?_, hS.frame, ?_, ?_, ?_, ?_, ?_⟩
    · by_cases e : b = g
      · subst e; rw [hn] at hb; cases hb
      · simp only [if_neg e]; exact hb
    · intro b o hb
      by_cases e : b = g
      · subst e; simp only [if_true, Option.some.injEq] at hb; subst hb; exact hg
      · simp only [if_neg e] at hb; exact hS.ghost b o hb
    · intro j x hj
      simp only [if_neg (hβ j x hj)]; exact hS.gno j x hj
    · intro b o hb
      by_cases e : b = g
      · subst e; rw [hS.gle _ _ hb] at hn; cases hn
      · simp only [if_neg e]; exact hS.gle b o hb
    · intro b hb hni
      have : b ≠ g := by
        rintro rfl
        rcases hin with h1 | h1
        · exact hni h1
        · omega
      simp only [if_neg this]; exact hS.gold b hb hni
    · exact fun l p hl => hS.own l p (ow_drop hl).1
    · intro l p b hl hb
      obtain ⟨h1, h2, h3⟩ := hS.ownB l p b (ow_drop hl).1 hb
      refine ⟨?_, h2, h3⟩
      have : b ≠ g := by
        rintro rfl
        exact hS.ownI l k p _ _ (ow_drop hl).1 ho (ow_drop hl).2 hb rfl
      simp only [if_neg this]; exact h1
    · exact fun l m p q b hl hm => hS.ownI l m p q b (ow_drop hl).1 (ow_drop hm).1
end Go.Proofs.Ytkjahaoobdbffaa

/- The base of this seat's proofs, twelfth part: calls that write what was handed to them. -/
namespace Go.Proofs.Ytkjahaoobdbffaa
open Go Go.RowKit

def Cell.plain : Cell → Bool
  | .ptr _ _ => false
  | .bsl _ _ _ _ => false
  | .clo _ _ _ _ => false
  | _ => true

def plainCs : List Cell → Bool
  | [] => true
  | c :: cs => c.plain && plainCs cs

def BoxB.plain : BoxB → Bool
  | .lit _ cs => plainCs cs
  | .obj _ => true

theorem CellOk.plain {N N' : Nat} {β β' : Nat → Nat} {c : Cell} {v : Value} (h : CellOk N β c v) (hp : c.plain = true) : CellOk N' β' c v := by
  cases c <;> simp [Cell.plain] at hp <;> exact h

theorem CellsOk.plain {N N' : Nat} {β β' : Nat → Nat} {cs : List Cell} : ∀ {vs : List Value}, CellsOk N β cs vs → plainCs cs = true → CellsOk N' β' cs vs := by
  induction cs with
  | nil => intro vs h _; cases vs <;> simp_all [CellsOk]
  | cons c cs ih =>
    intro vs h hp
    cases vs with
    | nil => simp [CellsOk] at h
    | cons v vs =>
      simp only [plainCs, Bool.and_eq_true] at hp
      exact ⟨h.1.plain hp.1, ih h.2 hp.2⟩

theorem BoxOk.plain {N N' : Nat} {β β' : Nat → Nat} {w : World} {b : Nat} {x : BoxB} (h : BoxOk N β w b x) (hp : x.plain = true) : BoxOk N' β' w b x := by
  cases x with
  | lit T cs => obtain ⟨arr, h1, h2⟩ := h; exact ⟨arr, h1, h2.plain hp⟩
  | obj o => exact h

/-- What a call may write: blocks with what they hold, and slices of its own. -/
structure Mem where
  bs : List (Nat × BoxB)
  os : List Own

def Mem.inc (m : Mem) : List Nat := m.bs.map (·.1) ++ m.os.filterMap (fun o => o.v.ownBlock)

structure MemOk (h : GH) (w : World) (m : Mem) : Prop where
  box : ∀ (k : Nat) (x : Nat × BoxB), m.bs[k]? = some x → BoxOk 0 (fun _ => 0) w x.1 x.2 ∧ h x.1 = none
  inj : ∀ (k l : Nat) (x y : Nat × BoxB), m.bs[k]? = some x → m.bs[l]? = some y → k ≠ l → x.1 ≠ y.1
  own : ∀ (k : Nat) (o : Own), m.os[k]? = some o → w.ownsRow 0 o.e o.sz o.v o.n o.xs
  ownB : ∀ (k : Nat) (o : Own) (b : Nat), m.os[k]? = some o → o.v.ownBlock = some b → h b = none ∧ ∀ (j : Nat) (x : Nat × BoxB), m.bs[j]? = some x → x.1 ≠ b
  ownI : ∀ (k l : Nat) (o p : Own) (b : Nat), m.os[k]? = some o → m.os[l]? = some p → k ≠ l → o.v.ownBlock = some b → p.v.ownBlock ≠ some b

/-- What has become of it. -/
structure Mend (h : GH) (w : World) (m : Mem) (h' : GH) (w' : World) (m' : Mem) : Prop where
  ok : MemOk h' w' m'
  same : m'.bs.map (·.1) = m.bs.map (·.1)
  frm : Frm m.inc w w'
  le : GLe h h'
  old : ∀ b, b < w.heap.size → b ∉ m.inc → h' b = h b
  sub : Sub h' w'
  fresh : ∀ (k : Nat) (o : Own) (b : Nat), m'.os[k]? = some o → o.v.ownBlock = some b → b ∈ m.inc ∨ w.heap.size ≤ b

def nums (k : Nat) : List (Nat × BoxB) → List (Nat × Box)
  | [] => []
  | (b, x) :: l => (k, ⟨some b, x⟩) :: nums (k + 1) l

def numo (k : Nat) : List Own → List (Nat × Own)
  | [] => []
  | o :: l => (k, o) :: numo (k + 1) l

theorem bx_nums : ∀ {l : List (Nat × BoxB)} {j k : Nat} {b : Box}, bx k (nums j l) = some b → j ≤ k ∧ ∃ x, l[k - j]? = some x ∧ b = ⟨some x.1, x.2⟩ := by
  intro l
  induction l with
  | nil => intro j k b h; simp [nums, bx] at h
  | cons y l ih =>
    intro j k b h
    obtain ⟨y1, y2⟩ := y
    rw [nums, bx_cons] at h
    split at h
    · rename_i e; subst e
      simp only [Option.some.injEq] at h; subst h
      exact ⟨Nat.le_refl _, (y1, y2), by simp, rfl⟩
    · obtain ⟨h1, x, h2, h3⟩ := ih h
      refine ⟨by omega, x, ?_, h3⟩
      rw [show k - j = (k - (j + 1)) + 1 by omega, List.getElem?_cons_succ]; exact h2

theorem ow_numo : ∀ {l : List Own} {j k : Nat} {o : Own}, ow k (numo j l) = some o → j ≤ k ∧ l[k - j]? = some o := by
  intro l
  induction l with
  | nil => intro j k b h; simp [numo, ow] at h
  | cons y l ih =>
    intro j k b h
    rw [numo, ow_cons] at h
    split at h
    · rename_i e; subst e
      simp only [Option.some.injEq] at h; subst h
      exact ⟨Nat.le_refl _, by simp⟩
    · obtain ⟨h1, h2⟩ := ih h
      refine ⟨by omega, ?_⟩
      rw [show k - j = (k - (j + 1)) + 1 by omega, List.getElem?_cons_succ]; exact h2

def Mem.β (m : Mem) : Nat → Nat := fun k => match m.bs[k]? with
  | some x => x.1
  | none => 0

theorem Mem.β_of {m : Mem} {k : Nat} {x : Nat × BoxB} (h : m.bs[k]? = some x) : m.β k = x.1 := by simp [Mem.β, h]

/-- **The way in**, with memory that may be written. -/
theorem Calls.enterM {P : Program} {f : FuncId} {fn : Func} {c : Code} {w : World} {R : Ending → World → Prop} {h : GH} {n : Nat} (m : Mem) (svs : List SV1) {args : Array Value} (hf : P.funcs[f]? = some fn) (hb : fn.body = some c) (hnt : fn.ntmps = n)
    (hpl : (m.bs.all fun x => x.2.plain) = true) (hm : MemOk h w m)
    (hargs : SV1sOk m.bs.length m.β svs args.toList) (hn : args.size ≤ n) (hs : Sub h w) (hG : G ⟨P, f, h, w, m.inc, n, R⟩ h ⟨[.code c], ⟨number 0 svs, nums 0 m.bs, m.bs.length, numo 0 m.os⟩⟩) : Calls P f args w R := by
  subst hnt
  refine Calls.of_reach (inc := m.inc) hf hb (hG m.β w _ ?_)
  have hpl' : ∀ (k : Nat) (x : Nat × BoxB), m.bs[k]? = some x → x.2.plain = true := fun k x hx => List.all_eq_true.1 hpl x (List.mem_of_getElem? hx)
  refine Sim.enter hargs hn hs (fun k b hk => ?_) (fun k l b c hk hl hne => ?_) (fun k b hk => ?_) (fun k b hk => ?_) (fun k b hk => ?_) (fun k o ho => ?_) (fun k o b ho hb => ?_) (fun k l o p b ho hp hne => ?_)
  · obtain ⟨-, x, hx, rfl⟩ := bx_nums hk; rw [Nat.sub_zero] at hx
    rw [Mem.β_of hx]
    exact (hm.box _ _ hx).1.plain (hpl' _ _ hx)
  · obtain ⟨-, x, hx, rfl⟩ := bx_nums hk; rw [Nat.sub_zero] at hx
    obtain ⟨-, y, hy, rfl⟩ := bx_nums hl; rw [Nat.sub_zero] at hy
    rw [Mem.β_of hx, Mem.β_of hy]
    exact hm.inj _ _ _ _ hx hy hne
  · obtain ⟨-, x, hx, rfl⟩ := bx_nums hk; rw [Nat.sub_zero] at hx
    exact (List.getElem?_eq_some_iff.1 hx).1
  · obtain ⟨-, x, hx, rfl⟩ := bx_nums hk; rw [Nat.sub_zero] at hx
    exact ⟨Mem.β_of hx, .inl (by simp only [Mem.inc, List.mem_append, List.mem_map]; exact .inl ⟨x, List.mem_of_getElem? hx, rfl⟩)⟩
  · obtain ⟨-, x, hx, rfl⟩ := bx_nums hk; rw [Nat.sub_zero] at hx
    rw [Mem.β_of hx]; exact (hm.box _ _ hx).2
  · exact hm.own _ _ (ow_numo ho).2
  · have ho' := (ow_numo ho).2
    obtain ⟨h1, h2⟩ := hm.ownB _ _ _ ho' hb
    refine ⟨h1, fun j x hj => ?_, .inl ?_⟩
    · obtain ⟨-, y, hy, rfl⟩ := bx_nums hj; rw [Nat.sub_zero] at hy
      rw [Mem.β_of hy]; exact h2 _ _ hy
    · simp only [Mem.inc, List.mem_append, List.mem_filterMap]
      exact .inr ⟨o, List.mem_of_getElem? ho', hb⟩
  · exact hm.ownI _ _ _ _ _ (ow_numo ho).2 (ow_numo hp).2 (by simpa using hne)

def takeB (boxes : List (Nat × Box)) : Nat → Nat → Option (List (Nat × BoxB))
  | _, 0 => some []
  | k, n + 1 => match bx k boxes with
    | some ⟨some b, x⟩ => if x.plain then match takeB boxes (k + 1) n with
        | some r => some ((b, x) :: r)
        | none => none
      else none
    | _ => none

def takeO (owns : List (Nat × Own)) : Nat → Nat → Option (List Own)
  | _, 0 => some []
  | k, n + 1 => match ow k owns with
    | some o => match takeO owns (k + 1) n with
        | some r => some (o :: r)
        | none => none
    | _ => none

theorem takeB_ok {boxes : List (Nat × Box)} : ∀ {n k : Nat} {l : List (Nat × BoxB)}, takeB boxes k n = some l → ∀ (j : Nat) (x : Nat × BoxB), l[j]? = some x → bx (k + j) boxes = some ⟨some x.1, x.2⟩ ∧ x.2.plain = true := by
  intro n
  induction n with
  | zero => intro k l h j x hx; simp only [takeB, Option.some.injEq] at h; subst h; simp at hx
  | succ n ih =>
    intro k l h j x hx
    simp only [takeB] at h
    split at h
    · rename_i b y hb
      split at h
      · rename_i hp
        split at h
        · rename_i r hr
          simp only [Option.some.injEq] at h; subst h
          cases j with
          | zero => simp at hx; subst hx; exact ⟨hb, hp⟩
          | succ j =>
            have := ih hr j x (by simpa using hx)
            rw [show k + (j + 1) = k + 1 + j by omega]; exact this
        · simp at h
      · simp at h
    · simp at h

theorem takeO_ok {owns : List (Nat × Own)} : ∀ {n k : Nat} {l : List Own}, takeO owns k n = some l → ∀ (j : Nat) (x : Own), l[j]? = some x → ow (k + j) owns = some x := by
  intro n
  induction n with
  | zero => intro k l h j x hx; simp only [takeO, Option.some.injEq] at h; subst h; simp at hx
  | succ n ih =>
    intro k l h j x hx
    simp only [takeO] at h
    split at h
    · rename_i o ho
      split at h
      · rename_i r hr
        simp only [Option.some.injEq] at h; subst h
        cases j with
        | zero => simp at hx; subst hx; exact ho
        | succ j =>
          have := ih hr j x (by simpa using hx)
          rw [show k + (j + 1) = k + 1 + j by omega]; exact this
      · simp at h
    · simp at h

/-- What the call leaves. -/
theorem Sim.mend {hE : GH} {w0 : World} {m m' : Mem} {n : Nat} {s : S} {h : GH} {β : Nat → Nat} {w : World} {tmps : Array Value} (hS : Sim hE w0 m.inc n s h β w tmps) {nb no : Nat} (hb : takeB s.boxes 0 nb = some m'.bs) (ho : takeO s.owns 0 no = some m'.os) (hsame : m'.bs.map (·.1) = m.bs.map (·.1))
    : Mend hE w0 m h w m' := by
  have hB : ∀ (k : Nat) (x : Nat × BoxB), m'.bs[k]? = some x → bx k s.boxes = some ⟨some x.1, x.2⟩ ∧ x.2.plain = true := fun k x hx => by simpa using takeB_ok hb k x hx
  have hO : ∀ (k : Nat) (x : Own), m'.os[k]? = some x → ow k s.owns = some x := fun k x hx => by simpa using takeO_ok ho k x hx
  have hβ : ∀ (k : Nat) (x : Nat × BoxB), m'.bs[k]? = some x → β k = x.1 := fun k x hx => (hS.fresh k _ (hB k x hx).1).1
  refine ⟨⟨fun k x hx => ?_, fun k l x y hx hy hne => ?_, fun k o hk => hS.own _ _ (hO k o hk), fun k o b hk hb => ?_, fun k l o p b hk hl => hS.ownI k l o p b (hO k o hk) (hO l p hl)⟩, hsame, hS.frame, hS.gle, fun b hb hn => hS.gold b hb hn, hS.sub, fun k o b hk hb => (hS.ownB k o b (hO k o hk) hb).2.2⟩
  · obtain ⟨h1, h2⟩ := hB k x hx
    rw [← hβ k x hx]
    exact ⟨(hS.box k _ h1).plain h2, hS.gno k _ h1⟩
  · rw [← hβ k x hx, ← hβ l y hy]
    exact hS.inj k l _ _ (hB k x hx).1 (hB l y hy).1 hne
  · obtain ⟨h1, h2, -⟩ := hS.ownB k o b (hO k o hk) hb
    exact ⟨h1, fun j x hj => by rw [← hβ j x hj]; exact h2 j _ (hB j x hj).1⟩

/-- **The way out**, with what has become of the memory handed in. -/
theorem G.retM {C : Ctx} {h : GH} {c : Cfg} {fn : Func} {rs : Array ResultVar} (m : Mem) (hf : C.P.funcs[C.f]? = some fn) (hrs : fn.results = rs) (v : Value) (hv : retVal C.P c rs.toList = some v) (hinc : C.inc = m.inc) (m' : Mem) {nb no : Nat}
    (hb : takeB c.s.boxes 0 nb = some m'.bs) (ho : takeO c.s.owns 0 no = some m'.os) (hsame : m'.bs.map (·.1) = m.bs.map (·.1))
    (H : ∀ w', Mend C.hE C.w0 m h w' m' → C.R (.returned v) w') : G C h c := by
  intro β w tmps hS
  have hg : Mend C.hE C.w0 m h w m' := by
    rw [hinc] at hS
    exact hS.mend hb ho hsame
  obtain ⟨todo, s⟩ := c
  subst hrs
  unfold retVal at hv
  simp only at hv
  split at hv
  · obtain ⟨vs, h1, rfl⟩ := map_some hv
    exact Reach.ret hf (results_of (resVals_ok hS _ _ h1)) (H w hg)
  · obtain ⟨vs, h1, rfl⟩ := map_some hv
    exact Reach.fall hf (results_of (resVals_ok hS _ _ h1)) (H w hg)
  · simp at hv

/-! ### The caller's side -/

/-- What is known after a call that wrote blocks inc' at most. -/
theorem Sim.after {hE : GH} {w0 : World} {inc : List Nat} {n : Nat} {s : S} {h : GH} {β : Nat → Nat} {w : World} {tmps : Array Value} (hS : Sim hE w0 inc n s h β w tmps) {s' : S} {h' : GH} {w' : World} {inc' : List Nat}
    (hsl : s'.slots = s.slots) (hnb : s'.nb = s.nb) (hf : Frm inc' w w') (hinc : ∀ b ∈ inc', h b = none ∧ (b ∈ inc ∨ w0.heap.size ≤ b))
    (hbox : ∀ k b, bx k s'.boxes = some b → ∃ b0, bx k s.boxes = some b0 ∧ b0.inc = b.inc ∧ BoxOk s.nb β w' (β k) b.body ∧ h' (β k) = none)
    (hown : ∀ k o, ow k s'.owns = some o → w'.ownsRow 0 o.e o.sz o.v o.n o.xs ∧ ∀ g, o.v.ownBlock = some g → h' g = none ∧ (∀ j x, bx j s.boxes = some x → β j ≠ g) ∧ (g ∈ inc ∨ w0.heap.size ≤ g))
    (hownI : ∀ k l o p b, ow k s'.owns = some o → ow l s'.owns = some p → k ≠ l → o.v.ownBlock = some b → p.v.ownBlock ≠ some b)
    (hle : GLe h h') (hold : ∀ b, b < w.heap.size → b ∉ inc' → h' b = h b) (hsub : Sub h' w') : Sim hE w0 inc n s' h' β w' tmps where
  size := hS.size
  slots t := by rw [hsl, hnb]; exact hS.slots t
  box k b hb := by obtain ⟨b0, -, -, h3, -⟩ := hbox k b hb; rw [hnb]; exact h3
  inj k l b c hb hc hne := by
    obtain ⟨b0, h1, -⟩ := hbox k b hb
    obtain ⟨c0, h2, -⟩ := hbox l c hc
    exact hS.inj k l b0 c0 h1 h2 hne
  keys k b hb := by obtain ⟨b0, h1, -⟩ := hbox k b hb; rw [hnb]; exact hS.keys k b0 h1
  fresh k b hb := by
    obtain ⟨b0, h1, h2, -⟩ := hbox k b hb
    have := hS.fresh k b0 h1
    rw [h2] at this; exact this
  ghost := hsub
  gno k b hb := by obtain ⟨b0, -, -, -, h4⟩ := hbox k b hb; exact h4
  frame := by
    refine ⟨hf.os.trans hS.frame.os, hf.tape.trans hS.frame.tape, hf.output.trans hS.frame.output, Nat.le_trans hS.frame.size hf.size, fun b hb hn => ?_⟩
    have hlt := Nat.lt_of_lt_of_le hb hS.frame.size
    rw [hf.block b hlt fun hm => ?_, hS.frame.block b hb hn]
    rcases (hinc b hm).2 with h1 | h1
    · exact hn h1
    · omega
  gle b o hb := hle b o (hS.gle b o hb)
  gold b hb hn := by
    have hlt := Nat.lt_of_lt_of_le hb hS.frame.size
    rw [hold b hlt fun hm => ?_, hS.gold b hb hn]
    rcases (hinc b hm).2 with h1 | h1
    · exact hn h1
    · omega
  own k o ho := (hown k o ho).1
  ownB k o b ho hb := by
    obtain ⟨h1, h2, h3⟩ := (hown k o ho).2 b hb
    refine ⟨h1, fun j x hj => ?_, h3⟩
    obtain ⟨b0, h4, -⟩ := hbox j x hj
    exact h2 j b0 h4
  ownI := hownI

def pickB (boxes : List (Nat × Box)) : List Nat → Option (List BoxB)
  | [] => some []
  | k :: ks => match bx k boxes with
    | some b => if b.body.plain then match pickB boxes ks with
        | some r => some (b.body :: r)
        | none => none
      else none
    | none => none

def pickO (owns : List (Nat × Own)) : List Nat → Option (List Own)
  | [] => some []
  | k :: ks => match ow k owns with
    | some o => match pickO owns ks with
        | some r => some (o :: r)
        | none => none
    | none => none

theorem pickB_ok {boxes : List (Nat × Box)} : ∀ {ks : List Nat} {l : List BoxB}, pickB boxes ks = some l → l.length = ks.length ∧ ∀ (j : Nat) (x : BoxB), l[j]? = some x → ∃ k b, ks[j]? = some k ∧ bx k boxes = some b ∧ b.body = x ∧ x.plain = true := by
  intro ks
  induction ks with
  | nil => intro l h; simp only [pickB, Option.some.injEq] at h; subst h; exact ⟨rfl, fun j x hx => by simp at hx⟩
  | cons k ks ih =>
    intro l h
    simp only [pickB] at h
    split at h
    · rename_i b hb
      split at h
      · rename_i hp
        split at h
        · rename_i r hr
          simp only [Option.some.injEq] at h; subst h
          obtain ⟨h1, h2⟩ := ih hr
          refine ⟨by simp [h1], fun j x hx => ?_⟩
          cases j with
          | zero => simp at hx; subst hx; exact ⟨k, b, by simp, hb, rfl, hp⟩
          | succ j => simpa using h2 j x (by simpa using hx)
        · simp at h
      · simp at h
    · simp at h

theorem pickO_ok {owns : List (Nat × Own)} : ∀ {ks : List Nat} {l : List Own}, pickO owns ks = some l → l.length = ks.length ∧ ∀ (j : Nat) (x : Own), l[j]? = some x → ∃ k, ks[j]? = some k ∧ ow k owns = some x := by
  intro ks
  induction ks with
  | nil => intro l h; simp only [pickO, Option.some.injEq] at h; subst h; exact ⟨rfl, fun j x hx => by simp at hx⟩
  | cons k ks ih =>
    intro l h
    simp only [pickO] at h
    split at h
    · rename_i o ho
      split at h
      · rename_i r hr
        simp only [Option.some.injEq] at h; subst h
        obtain ⟨h1, h2⟩ := ih hr
        refine ⟨by simp [h1], fun j x hx => ?_⟩
        cases j with
        | zero => simp at hx; subst hx; exact ⟨k, by simp, ho⟩
        | succ j => simpa using h2 j x (by simpa using hx)
      · simp at h
    · simp at h

def putBs : List Nat → List BoxB → List (Nat × Box) → List (Nat × Box)
  | k :: ks, x :: xs, boxes => match bx k boxes with
    | some b => (k, ⟨b.inc, x⟩) :: putBs ks xs boxes
    | none => putBs ks xs boxes
  | _, _, boxes => boxes

def putOs : List Nat → List Own → List (Nat × Own) → List (Nat × Own)
  | k :: ks, x :: xs, owns => (k, x) :: putOs ks xs owns
  | _, _, owns => owns

def putMem (s : S) (ks kos : List Nat) (bs : List BoxB) (os : List Own) : S := { s with boxes := putBs ks bs s.boxes, owns := putOs kos os s.owns }

theorem bx_putBs : ∀ {ks : List Nat} {xs : List BoxB} {boxes : List (Nat × Box)} {k : Nat} {b : Box}, xs.length = ks.length → bx k (putBs ks xs boxes) = some b →
    (∃ (j : Nat) (b0 : Box), ks[j]? = some k ∧ xs[j]? = some b.body ∧ bx k boxes = some b0 ∧ b0.inc = b.inc) ∨ (bx k boxes = some b ∧ ∀ j : Nat, ks[j]? ≠ some k) := by
  intro ks
  induction ks with
  | nil => intro xs boxes k b _ h; right; cases xs <;> exact ⟨by simpa [putBs] using h, by simp⟩
  | cons k0 ks ih =>
    intro xs boxes k b hl h
    cases xs with
    | nil => simp at hl
    | cons x xs =>
      simp only [putBs] at h
      cases hk0 : bx k0 boxes with
      | none =>
        rw [hk0] at h
        simp only at h
        rcases ih (by simpa using hl) h with ⟨j, b0, h1, h2, h3, h4⟩ | ⟨h1, h2⟩
        · exact .inl ⟨j + 1, b0, by simpa using h1, by simpa using h2, h3, h4⟩
        · refine .inr ⟨h1, fun j hj => ?_⟩
          cases j with
          | zero => simp at hj; subst hj; rw [hk0] at h1; cases h1
          | succ j => exact h2 j (by simpa using hj)
      | some b0 =>
        rw [hk0] at h
        simp only at h
        rw [bx_cons] at h
        split at h
        · rename_i e; subst e
          simp only [Option.some.injEq] at h; subst h
          exact .inl ⟨0, b0, by simp, by simp, hk0, rfl⟩
        · rename_i e
          rcases ih (by simpa using hl) h with ⟨j, b0, h1, h2, h3, h4⟩ | ⟨h1, h2⟩
          · exact .inl ⟨j + 1, b0, by simpa using h1, by simpa using h2, h3, h4⟩
          · refine .inr ⟨h1, fun j hj => ?_⟩
            cases j with
            | zero => simp at hj; exact e hj
            | succ j => exact h2 j (by simpa using hj)

theorem ow_putOs : ∀ {ks : List Nat} {xs : List Own} {owns : List (Nat × Own)} {k : Nat} {o : Own}, xs.length = ks.length → ow k (putOs ks xs owns) = some o →
    (∃ j : Nat, ks[j]? = some k ∧ xs[j]? = some o) ∨ (ow k owns = some o ∧ ∀ j : Nat, ks[j]? ≠ some k) := by
  intro ks
  induction ks with
  | nil => intro xs owns k b _ h; right; cases xs <;> exact ⟨by simpa [putOs] using h, by simp⟩
  | cons k0 ks ih =>
    intro xs owns k b hl h
    cases xs with
    | nil => simp at hl
    | cons x xs =>
      simp only [putOs] at h
      rw [ow_cons] at h
      split at h
      · rename_i e; subst e
        simp only [Option.some.injEq] at h; subst h
        exact .inl ⟨0, by simp, by simp⟩
      · rename_i e
        rcases ih (by simpa using hl) h with ⟨j, h1, h2⟩ | ⟨h1, h2⟩
        · exact .inl ⟨j + 1, by simpa using h1, by simpa using h2⟩
        · refine .inr ⟨h1, fun j hj => ?_⟩
          cases j with
          | zero => simp at hj; exact e hj
          | succ j => exact h2 j (by simpa using hj)

def nodupB : List Nat → Bool
  | [] => true
  | k :: ks => !(ks.any (Nat.beq k)) && nodupB ks

theorem nodupB_ok : ∀ {ks : List Nat}, nodupB ks = true → ∀ (i j : Nat) (k : Nat), ks[i]? = some k → ks[j]? = some k → i = j := by
  intro ks
  induction ks with
  | nil => intro _ i j k h; simp at h
  | cons x ks ih =>
    intro h i j k hi hj
    simp only [nodupB, Bool.and_eq_true, Bool.not_eq_true', List.any_eq_false] at h
    cases i with
    | zero => cases j with
      | zero => rfl
      | succ j =>
        simp at hi hj; subst hi
        exact absurd (by simp) (h.1 _ (List.mem_of_getElem? hj))
    | succ i => cases j with
      | zero =>
        simp at hi hj; subst hj
        exact absurd (by simp) (h.1 _ (List.mem_of_getElem? hi))
      | succ j => rw [ih h.2 i j k (by simpa using hi) (by simpa using hj)]

/-- What is handed to a call: the blocks of the keys ks with what they hold, the own slices of the keys kos. -/
def memOf (β : Nat → Nat) (ks : List Nat) (bs : List BoxB) (os : List Own) : Mem := ⟨(ks.map β).zip bs, os⟩

theorem memOf_get {β : Nat → Nat} {ks : List Nat} {bs : List BoxB} {os : List Own} {j : Nat} {x : Nat × BoxB} : (memOf β ks bs os).bs[j]? = some x ↔ ∃ k, ks[j]? = some k ∧ x.1 = β k ∧ bs[j]? = some x.2 := by
  simp only [memOf, List.getElem?_zip_eq_some, List.getElem?_map, Option.map_eq_some_iff]
  constructor
  · rintro ⟨⟨k, h1, h2⟩, h3⟩; exact ⟨k, h1, h2.symm, h3⟩
  · rintro ⟨k, h1, h2, h3⟩; exact ⟨⟨k, h1, h2.symm⟩, h3⟩

section hand
variable {hE : GH} {w0 : World} {inc : List Nat} {n : Nat} {s : S} {h : GH} {β : Nat → Nat} {w : World} {tmps : Array Value}

/-- Keys that are not among ks, told to the callee as memory that nobody writes. -/
def roH (h : GH) (β : Nat → Nat) (w : World) (ro : List Nat) : GH := fun b => if ro.any (fun k => Nat.beq (β k) b) then w.heap[b]? else h b

theorem roH_nil : roH h β w [] = h := by funext b; simp [roH]

theorem roH_ro {ro : List Nat} {k : Nat} (hk : k ∈ ro) : roH h β w ro (β k) = w.heap[β k]? := by
  unfold roH; rw [if_pos]; exact List.any_eq_true.2 ⟨k, hk, by simp⟩

theorem roH_no {ro : List Nat} {b : Nat} (hb : ∀ k ∈ ro, β k ≠ b) : roH h β w ro b = h b := by
  unfold roH; rw [if_neg]
  intro hh
  obtain ⟨k, hk, he⟩ := List.any_eq_true.1 hh
  exact hb k hk (Nat.eq_of_beq_eq_true he)

theorem Sim.roSub (hS : Sim hE w0 inc n s h β w tmps) (ro : List Nat) : Sub (roH h β w ro) w := by
  intro b o hb
  unfold roH at hb
  split at hb
  · exact hb
  · exact hS.ghost b o hb

theorem Sim.roLe (hS : Sim hE w0 inc n s h β w tmps) (ro : List Nat) : GLe h (roH h β w ro) := by
  intro b o hb
  unfold roH
  split
  · exact hS.ghost b o hb
  · exact hb

def keysIn (ro : List Nat) (boxes : List (Nat × Box)) : Bool := ro.all fun k => (bx k boxes).isSome
def disj (ro ks : List Nat) : Bool := ro.all fun k => !(ks.any (Nat.beq k))

theorem disj_ok {ro ks : List Nat} (h : disj ro ks = true) {k : Nat} (h1 : k ∈ ro) (h2 : k ∈ ks) : False := by
  unfold disj at h
  have := List.all_eq_true.1 h k h1
  simp only [Bool.not_eq_true', List.any_eq_false] at this
  exact this k h2 (by simp)

theorem Sim.memOk (hS : Sim hE w0 inc n s h β w tmps) {ks kos ro : List Nat} {bs : List BoxB} {os : List Own} (hb : pickB s.boxes ks = some bs) (ho : pickO s.owns kos = some os) (hk : nodupB ks = true) (hko : nodupB kos = true) (hro : keysIn ro s.boxes = true) (hd : disj ro ks = true) :
    MemOk (roH h β w ro) w (memOf β ks bs os) := by
  obtain ⟨hl, hB⟩ := pickB_ok hb
  obtain ⟨hlo, hO⟩ := pickO_ok ho
  have hroB : ∀ r ∈ ro, ∃ b, bx r s.boxes = some b := fun r hr => by
    have := List.all_eq_true.1 hro r hr
    exact Option.isSome_iff_exists.1 this
  refine ⟨fun j x hx => ?_, fun i j x y hx hy hne => ?_, fun k o hk => ?_, fun k o b hk hb => ?_, fun k l o p b hk hl hne => ?_⟩
  · obtain ⟨k, h1, h2, h3⟩ := memOf_get.1 hx
    obtain ⟨k', b, h4, h5, h6, h7⟩ := hB j x.2 h3
    rw [h1] at h4; cases h4
    refine ⟨by rw [h2, ← h6]; exact (hS.box k b h5).plain (by rw [h6]; exact h7), ?_⟩
    rw [h2, roH_no fun r hr => ?_]
    · exact hS.gno k b h5
    · obtain ⟨b', hb'⟩ := hroB r hr
      exact hS.inj r k b' b hb' h5 fun e => disj_ok hd hr (e ▸ List.mem_of_getElem? h1)
  · obtain ⟨k, h1, h2, h3⟩ := memOf_get.1 hx
    obtain ⟨l, h1', h2', h3'⟩ := memOf_get.1 hy
    obtain ⟨k', b, h4, h5, -⟩ := hB i x.2 h3
    obtain ⟨l', c, h6, h7, -⟩ := hB j y.2 h3'
    rw [h1] at h4; cases h4
    rw [h1'] at h6; cases h6
    rw [h2, h2']
    exact hS.inj k l b c h5 h7 fun e => hne (nodupB_ok hk i j k h1 (e ▸ h1'))
  · obtain ⟨k', -, h2⟩ := hO k o hk
    exact hS.own _ _ h2
  · obtain ⟨k', -, h2⟩ := hO k o hk
    obtain ⟨h3, h4, -⟩ := hS.ownB _ _ _ h2 hb
    refine ⟨?_, fun j x hx => ?_⟩
    · rw [roH_no fun r hr => ?_]
      · exact h3
      · obtain ⟨b', hb'⟩ := hroB r hr
        exact h4 r b' hb'
    · obtain ⟨k, h1, h2, h3⟩ := memOf_get.1 hx
      obtain ⟨k', c, h5, h6, -⟩ := hB j x.2 h3
      rw [h1] at h5; cases h5
      rw [h2]; exact h4 k c h6
  · obtain ⟨k', h1, h2⟩ := hO k o hk
    obtain ⟨l', h3, h4⟩ := hO l p hl
    exact hS.ownI k' l' o p b h2 h4 fun e => hne (nodupB_ok hko k l k' h1 (e ▸ h3))

theorem memInc {ks kos : List Nat} {bs : List BoxB} {os : List Own} (hb : pickB s.boxes ks = some bs) (ho : pickO s.owns kos = some os) {b : Nat} (hm : b ∈ (memOf β ks bs os).inc) :
    (∃ k x, k ∈ ks ∧ bx k s.boxes = some x ∧ β k = b) ∨ ∃ k o, k ∈ kos ∧ ow k s.owns = some o ∧ o.v.ownBlock = some b := by
  obtain ⟨hl, hB⟩ := pickB_ok hb
  obtain ⟨hlo, hO⟩ := pickO_ok ho
  simp only [Mem.inc, List.mem_append, List.mem_map, List.mem_filterMap] at hm
  rcases hm with ⟨x, hx, rfl⟩ | ⟨o, ho', hb'⟩
  · obtain ⟨j, hj⟩ := List.getElem?_of_mem hx
    obtain ⟨k, h1, h2, h3⟩ := memOf_get.1 hj
    obtain ⟨k', c, h5, h6, -⟩ := hB j x.2 h3
    rw [h1] at h5; cases h5
    exact .inl ⟨k, c, List.mem_of_getElem? h1, h6, h2.symm⟩
  · obtain ⟨j, hj⟩ := List.getElem?_of_mem ho'
    obtain ⟨k, h1, h2⟩ := hO j o hj
    exact .inr ⟨k, o, List.mem_of_getElem? h1, h2, hb'⟩

/-- Without what lay in those blocks. -/
def hideH (β : Nat → Nat) (ro : List Nat) (hc : GH) : GH := fun b => if ro.any (fun k => Nat.beq (β k) b) then none else hc b

theorem hideH_nil {hc : GH} : hideH β [] hc = hc := by funext b; simp [hideH]

theorem Sim.hideLe (hS : Sim hE w0 inc n s h β w tmps) {ro : List Nat} (hro : keysIn ro s.boxes = true) {hc : GH} (hle : GLe (roH h β w ro) hc) : GLe h (hideH β ro hc) := by
  intro b o hbo
  have hne : ¬ (ro.any fun k => Nat.beq (β k) b) = true := by
    intro hh
    obtain ⟨k, hk1, hk2⟩ := List.any_eq_true.1 hh
    obtain ⟨c, hc⟩ := Option.isSome_iff_exists.1 (List.all_eq_true.1 hro k hk1)
    have := hS.gno k c hc
    rw [Nat.eq_of_beq_eq_true hk2, hbo] at this; cases this
  unfold hideH
  rw [if_neg hne]
  exact hle b o (hS.roLe ro b o hbo)

/-- What the caller knows after such a call. -/
theorem Sim.mended (hS : Sim hE w0 inc n s h β w tmps) {ks kos ro : List Nat} {bs : List BoxB} {os : List Own} (hb : pickB s.boxes ks = some bs) (ho : pickO s.owns kos = some os) (hro : keysIn ro s.boxes = true) (hd : disj ro ks = true)
    {hc' : GH} {w' : World} {bs' : List BoxB} {os' : List Own} (hlb : bs'.length = ks.length) (hlo : os'.length = kos.length) (hm : Mend (roH h β w ro) w (memOf β ks bs os) hc' w' (memOf β ks bs' os')) :
    Sim hE w0 inc n (putMem s ks kos bs' os') (hideH β ro hc') β w' tmps := by
  unfold hideH
  have hl := (pickB_ok hb).1
  have hinc := @memInc s β ks kos bs os hb ho
  have hroB : ∀ r ∈ ro, ∃ b, bx r s.boxes = some b := fun r hr => by
    have := List.all_eq_true.1 hro r hr
    exact Option.isSome_iff_exists.1 this
  have hnone : ∀ b, hc' b = none → (if ro.any (fun k => Nat.beq (β k) b) then none else hc' b) = none := fun b hb => by split <;> simp [hb]
  have hroinc : ∀ k ∈ ro, β k ∉ (memOf β ks bs os).inc := by
    intro k hkr hmem
    obtain ⟨c, hc⟩ := hroB k hkr
    rcases hinc hmem with ⟨k', x, h1, h2, h3⟩ | ⟨k', o, h1, h2, h3⟩
    · exact hS.inj k' k x c h2 hc (fun e => disj_ok hd hkr (e ▸ h1)) h3
    · exact (hS.ownB k' o _ h2 h3).2.1 k c hc rfl
  refine hS.after (inc' := (memOf β ks bs os).inc) rfl rfl hm.frm (fun b hb => ?_) (fun k b hkb => ?_) (fun k o hko' => ?_) (fun k l o p b h1 h2 hne hob hpb => ?_) (fun b o hbo => ?_) (fun b hlt hn => ?_) (fun b o hbo => ?_)
  · rcases hinc hb with ⟨k, x, h1, h2, rfl⟩ | ⟨k, o, h1, h2, h3⟩
    · refine ⟨hS.gno k x h2, ?_⟩
      have := hS.fresh k x h2
      cases hx : x.inc with
      | none => rw [hx] at this; exact .inr this
      | some m => rw [hx] at this; rw [this.1]; exact this.2
    · obtain ⟨h4, -, h5⟩ := hS.ownB k o b h2 h3
      exact ⟨h4, h5⟩
  · rcases bx_putBs hlb hkb with ⟨j, b0, h1, h2, h3, h4⟩ | ⟨h1, h2⟩
    · obtain ⟨h5, h6⟩ := hm.ok.box j (β k, b.body) (memOf_get.2 ⟨k, h1, rfl, h2⟩)
      refine ⟨b0, h3, h4, ?_, hnone _ h6⟩
      cases hbb : b.body with
      | obj o => rw [hbb] at h5; exact h5
      | lit T cs =>
        rw [hbb] at h5
        obtain ⟨arr, h7, h8⟩ := h5
        refine ⟨arr, h7, ?_⟩
        exact (show ∀ {cs : List Cell} {vs : List Value}, CellsOk 0 (fun _ => 0) cs vs → CellsOk s.nb β cs vs from fun {cs} => by
          induction cs with
          | nil => intro vs h; cases vs <;> simp_all [CellsOk]
          | cons c cs ih =>
            intro vs h
            cases vs with
            | nil => simp [CellsOk] at h
            | cons v vs =>
              refine ⟨?_, ih h.2⟩
              have h0 := h.1
              cases c <;> simp only [CellOk] at h0 ⊢ <;> first | exact h0 | omega) h8
    · have hkn : β k ∉ (memOf β ks bs os).inc := by
        intro hmem
        rcases hinc hmem with ⟨k', x, h3, h4, h5⟩ | ⟨k', o, h3, h4, h5⟩
        · have : k' = k := by
            by_cases e : k' = k
            · exact e
            · exact absurd h5 (hS.inj k' k x b h4 h1 e)
          subst this
          obtain ⟨j, hj⟩ := List.getElem?_of_mem h3
          exact h2 j hj
        · exact (hS.ownB k' o _ h4 h5).2.1 k b h1 rfl
      have hlt := (hS.box k b h1).lt
      refine ⟨b, h1, rfl, (hS.box k b h1).of_block (hm.frm.block _ hlt hkn), ?_⟩
      by_cases hr : (ro.any fun x => Nat.beq (β x) (β k)) = true
      · simp only [if_pos hr]
      · simp only [if_neg hr]
        rw [hm.old _ hlt hkn]
        unfold roH; rw [if_neg hr]; exact hS.gno k b h1
  · rcases ow_putOs hlo hko' with ⟨j, h1, h2⟩ | ⟨h1, h2⟩
    · refine ⟨hm.ok.own j o h2, fun g hg => ?_⟩
      obtain ⟨h3, h4⟩ := hm.ok.ownB j o g h2 hg
      refine ⟨hnone _ h3, ?_⟩
      rcases hm.fresh j o g h2 hg with h5 | h5
      · rcases hinc h5 with ⟨k', x, h6, h7, h8⟩ | ⟨k', p, h6, h7, h8⟩
        · exfalso
          obtain ⟨i, hi⟩ := List.getElem?_of_mem h6
          have hi' : i < bs'.length := by rw [hlb]; exact (List.getElem?_eq_some_iff.1 hi).1
          exact h4 i (β k', bs'[i]) (memOf_get.2 ⟨k', hi, rfl, by simp [hi']⟩) h8
        · obtain ⟨h9, h10, h11⟩ := hS.ownB k' p g h7 h8
          exact ⟨h10, h11⟩
      · refine ⟨fun l x hl e => ?_, .inr (Nat.le_trans hS.frame.size h5)⟩
        have := (hS.box l x hl).lt
        omega
    · have hob := hS.own k o h1
      have hkn : ∀ g, o.v.ownBlock = some g → g ∉ (memOf β ks bs os).inc := by
        intro g hg hmem
        rcases hinc hmem with ⟨k', x, h3, h4, h5⟩ | ⟨k', p, h3, h4, h5⟩
        · exact (hS.ownB k o g h1 hg).2.1 k' x h4 h5
        · have : k' = k := by
            by_cases e : k' = k
            · exact e
            · exact absurd hg (hS.ownI k' k p o g h4 h1 e h5)
          subst this
          obtain ⟨j, hj⟩ := List.getElem?_of_mem h3
          exact h2 j hj
      refine ⟨ownsRow_of_block hob fun g hg => hm.frm.block g (ownsRow_lt hob hg) (hkn g hg), fun g hg => ?_⟩
      obtain ⟨h3, h4, h5⟩ := hS.ownB k o g h1 hg
      refine ⟨hnone _ ?_, h4, h5⟩
      rw [hm.old g (ownsRow_lt hob hg) (hkn g hg), roH_no fun r hr => ?_]
      · exact h3
      · obtain ⟨c, hc⟩ := hroB r hr
        exact h4 r c hc
  · rcases ow_putOs hlo h1 with ⟨i, h3, h4⟩ | ⟨h3, h4⟩
    · rcases ow_putOs hlo h2 with ⟨j, h5, h6⟩ | ⟨h5, h6⟩
      · exact hm.ok.ownI i j o p b h4 h6 (fun e => hne (by subst e; rw [h3] at h5; exact Option.some.inj h5)) hob hpb
      · rcases hm.fresh i o b h4 hob with h7 | h7
        · rcases hinc h7 with ⟨k', x, h8, h9, h10⟩ | ⟨k', q, h8, h9, h10⟩
          · exact (hS.ownB l p b h5 hpb).2.1 k' x h9 h10
          · by_cases e : k' = l
            · subst e
              obtain ⟨j, hj⟩ := List.getElem?_of_mem h8
              exact h6 j hj
            · exact hS.ownI k' l q p b h9 h5 e h10 hpb
        · have := ownsRow_lt (hS.own l p h5) hpb
          omega
    · rcases ow_putOs hlo h2 with ⟨j, h5, h6⟩ | ⟨h5, h6⟩
      · rcases hm.fresh j p b h6 hpb with h7 | h7
        · rcases hinc h7 with ⟨k', x, h8, h9, h10⟩ | ⟨k', q, h8, h9, h10⟩
          · exact (hS.ownB k o b h3 hob).2.1 k' x h9 h10
          · by_cases e : k' = k
            · subst e
              obtain ⟨j, hj⟩ := List.getElem?_of_mem h8
              exact h4 j hj
            · exact hS.ownI k' k q o b h9 h3 e h10 hob
        · have := ownsRow_lt (hS.own k o h3) hob
          omega
      · exact hS.ownI k l o p b h3 h5 hne hob hpb
  · have hne : ¬ (ro.any fun k => Nat.beq (β k) b) = true := by
      intro hh
      obtain ⟨k, hk1, hk2⟩ := List.any_eq_true.1 hh
      obtain ⟨c, hc⟩ := hroB k hk1
      have := hS.gno k c hc
      rw [Nat.eq_of_beq_eq_true hk2, hbo] at this; cases this
    simp only [if_neg hne]
    exact hm.le b o (hS.roLe ro b o hbo)
  · by_cases hr : (ro.any fun k => Nat.beq (β k) b) = true
    · simp only [if_pos hr]
      obtain ⟨k, hk1, hk2⟩ := List.any_eq_true.1 hr
      obtain ⟨c, hc⟩ := hroB k hk1
      have := hS.gno k c hc
      rw [Nat.eq_of_beq_eq_true hk2] at this; exact this.symm
    · simp only [if_neg hr]
      rw [hm.old b hlt hn]
      unfold roH; rw [if_neg hr]
  · split at hbo
    · cases hbo
    · exact hm.sub b o hbo

theorem bx_putBs_some {ks : List Nat} : ∀ {xs : List BoxB} {boxes : List (Nat × Box)} {k : Nat} {b : Box}, bx k boxes = some b → ∃ b', bx k (putBs ks xs boxes) = some b' := by
  induction ks with
  | nil => intro xs boxes k b h; cases xs <;> exact ⟨b, by simpa [putBs] using h⟩
  | cons k0 ks ih =>
    intro xs boxes k b h
    cases xs with
    | nil => exact ⟨b, by simpa [putBs] using h⟩
    | cons x xs =>
      simp only [putBs]
      split
      · rw [bx_cons]
        split
        · exact ⟨_, rfl⟩
        · exact ih h
      · exact ih h
end hand

def handOk (s : S) (ks kos ro : List Nat) : Bool := nodupB ks && nodupB kos && keysIn ro s.boxes && disj ro ks

/-- **A call that is handed memory to write**: the blocks ks, the own slices kos; the blocks ro it may only read. -/
theorem G.callM {C : Ctx} {h : GH} {c : Cfg} {f : FuncId} {svs : List SV1} {d : Option Nat} (ks kos ro : List Nat) (hc : callView c = some ⟨f, svs, d, none⟩) (he : enters C.P f = true) (hd : dstOk C.n d = true) {bs : List BoxB} {os : List Own}
    (hb : pickB c.s.boxes ks = some bs) (ho : pickO c.s.owns kos = some os) (hh : handOk c.s ks kos ro = true) (Q : GH → Value → List BoxB → List Own → Prop)
    (hcall : ∀ β w tmps l, Sim C.hE C.w0 C.inc C.n c.s h β w tmps → SV1sOk c.s.nb β svs l → Sub (roH h β w ro) w → MemOk (roH h β w ro) w (memOf β ks bs os) →
      Calls C.P f l.toArray w fun e w' => ∃ v bs' os' hc', e = .returned v ∧ bs'.length = ks.length ∧ os'.length = kos.length ∧ Mend (roH h β w ro) w (memOf β ks bs os) hc' w' (memOf β ks bs' os') ∧ Q (hideH β ro hc') v bs' os')
    (hk : ∀ h' v bs' os', Q h' v bs' os' → GLe h h' → ∃ sv, (∀ N β tmps, SVOk N β tmps sv v) ∧ G C h' (afterOp (withS c (putMem c.s ks kos bs' os')) sv)) : G C h c := by
  simp only [handOk, Bool.and_eq_true] at hh
  obtain ⟨⟨⟨h1, h2⟩, h3⟩, h4⟩ := hh
  refine G.callX hc he hd fun β w tmps l hS hl => ?_
  refine (hcall β w tmps l hS hl (hS.roSub ro) (hS.memOk hb ho h1 h2 h3 h4)).mono ?_
  rintro e w' ⟨v, bs', os', hc', rfl, hlb, hlo, hm, hq⟩
  obtain ⟨sv, h5, h6⟩ := hk _ v bs' os' hq (hS.hideLe h3 hm.le)
  exact ⟨v, rfl, _, _, β, sv, hS.mended hb ho h3 h4 hlb hlo hm, fun tmps' => h5 _ _ _, h6⟩

/-- The same inside a region of open order. -/
theorem GDop.callM {C : Ctx} {h0 h : GH} {ops : Array Oper} {k : List Item} {kl : List Nat} {c : DCfg} {i : Nat} {f : FuncId} {svs : List SV1} {d : Option Nat} (ks kos ro : List Nat) (hc : callAtD ops c i = some ⟨f, svs, d, none⟩) (he : enters C.P f = true) (hd : dstOk C.n d = true) {bs : List BoxB} {os : List Own}
    (hb : pickB c.s.boxes ks = some bs) (ho : pickO c.s.owns kos = some os) (hh : handOk c.s ks kos ro = true) (hlv : liveAll kl c.s = true) (hdk : disj kl ks = true) (Q : GH → Value → List BoxB → List Own → Prop)
    (hcall : ∀ β w tmps l, Sim C.hE C.w0 C.inc C.n c.s h β w tmps → SV1sOk c.s.nb β svs l → Sub (roH h β w ro) w → MemOk (roH h β w ro) w (memOf β ks bs os) →
      Calls C.P f l.toArray w fun e w' => ∃ v bs' os' hc', e = .returned v ∧ bs'.length = ks.length ∧ os'.length = kos.length ∧ Mend (roH h β w ro) w (memOf β ks bs os) hc' w' (memOf β ks bs' os') ∧ Q (hideH β ro hc') v bs' os')
    (hk : ∀ h' v bs' os', Q h' v bs' os' → GLe h h' → ∃ sv, (∀ N β tmps, SVOk N β tmps sv v) ∧ GD C h0 h' ops k kl (afterN ops c i (putMem c.s ks kos bs' os') sv)) : GDop C h0 h ops k kl c i := by
  simp only [handOk, Bool.and_eq_true] at hh
  obtain ⟨⟨⟨h1, h2⟩, h3⟩, h4⟩ := hh
  refine GDop.callX hc he hd fun β w tmps l hS hl => ?_
  refine (hcall β w tmps l hS hl (hS.roSub ro) (hS.memOk hb ho h1 h2 h3 h4)).mono ?_
  rintro e w' ⟨v, bs', os', hc', rfl, hlb, hlo, hm, hq⟩
  have hle := hS.hideLe h3 hm.le
  obtain ⟨sv, h5, h6⟩ := hk _ v bs' os' hq hle
  refine ⟨v, rfl, _, _, β, sv, hS.mended hb ho h3 h4 hlb hlo hm, fun tmps' => h5 _ _ _, hle, fun x hx => ?_, h6⟩
  obtain ⟨b, hbx⟩ := liveAll_ok hlv x hx
  refine ⟨rfl, hm.frm.block _ (hS.box x b hbx).lt fun hmem => ?_, bx_putBs_some hbx⟩
  rcases memInc hb ho hmem with ⟨k', y, h7, h8, h9⟩ | ⟨k', o, h7, h8, h9⟩
  · exact hS.inj k' x y b h8 hbx (fun e => disj_ok hdk hx (e ▸ h7)) h9
  · exact (hS.ownB k' o _ h8 h9).2.1 x b hbx rfl
end Go.Proofs.Ytkjahaoobdbffaa
