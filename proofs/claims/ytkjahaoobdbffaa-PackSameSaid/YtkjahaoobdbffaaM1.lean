/- The program's data as plain Lean data, and how memory holds them. -/
import Derived.Test.YtkjahaoobdbffaaB10
import Derived.Test.YtkjahaoobdbffaaProg
namespace Go.Proofs.Ytkjahaoobdbffaa
open Go Go.RowKit

structure Rul where
  id : Int
  pri : Int
  act : Int
  sco : Int
  pat : ByteArray
  deriving DecidableEq

structure Ent where
  view : Int
  client : Int
  request : Int
  dflt : Int
  closed : Int
  fuel : Int
  stack : Int
  put : List Rul
  drop : List Int
  deriving DecidableEq

structure Msg where
  kind : Int
  view : Int
  frm : Int
  to : Int
  op : Int
  commit : Int
  normal : Int
  log : List Ent
  deriving DecidableEq

structure Sta where
  view : Int
  normal : Int
  commit : Int
  active : Int
  log : List Ent
  deriving DecidableEq

/-- A slice whose elements (sz cells each) hold the members of l. -/
def SlR {α : Type} (h : GH) (sz : Nat) (R : List Value → α → Prop) (v : Value) (l : List α) : Prop :=
  ∃ ao cap, v = .slice ao l.length cap ∧ l.length ≤ cap ∧ l.length ≤ 140737488351232 ∧
    (l = [] ∨ ∃ b off arr T fr, ao = some ⟨b, off, none⟩ ∧ h b = some (.cells arr T fr) ∧ off + l.length * sz ≤ arr.size ∧
      ∀ i x, l[i]? = some x → R ((arr.toList.drop (off + i * sz)).take sz) x)

def IntR (cs : List Value) (n : Int) : Prop := cs = [.int .i64 n]
def RulR (cs : List Value) (r : Rul) : Prop := cs = [.int .i64 r.id, .int .i64 r.pri, .int .i64 r.act, .int .i64 r.sco, .string r.pat]
def EntR (h : GH) (cs : List Value) (e : Ent) : Prop :=
  ∃ p d, cs = [.int .i64 e.view, .int .i64 e.client, .int .i64 e.request, .int .i64 e.dflt, .int .i64 e.closed, .int .i64 e.fuel, .int .i64 e.stack, p, d] ∧ SlR h 5 RulR p e.put ∧ SlR h 1 IntR d e.drop
def EntsR (h : GH) (v : Value) (l : List Ent) : Prop := SlR h 9 (EntR h) v l
def MsgR (h : GH) (cs : List Value) (m : Msg) : Prop :=
  ∃ p, cs = [.int .i64 m.kind, .int .i64 m.view, .int .i64 m.frm, .int .i64 m.to, .int .i64 m.op, .int .i64 m.commit, .int .i64 m.normal, p] ∧ EntsR h p m.log
def StaR (h : GH) (cs : List Value) (s : Sta) : Prop :=
  ∃ p, cs = [.int .i64 s.view, .int .i64 s.normal, .int .i64 s.commit, .int .i64 s.active, p] ∧ EntsR h p s.log

theorem SlR.mono {α : Type} {h h' : GH} {sz : Nat} {R R' : List Value → α → Prop} {v : Value} {l : List α} (hs : SlR h sz R v l) (hle : GLe h h') (hR : ∀ cs x, R cs x → R' cs x) : SlR h' sz R' v l := by
  obtain ⟨ao, cap, h1, h2, h3, h4⟩ := hs
  refine ⟨ao, cap, h1, h2, h3, h4.imp id ?_⟩
  rintro ⟨b, off, arr, T, fr, e1, e2, e3, e4⟩
  exact ⟨b, off, arr, T, fr, e1, hle _ _ e2, e3, fun i x hx => hR _ _ (e4 i x hx)⟩

theorem EntR.mono {h h' : GH} {cs : List Value} {e : Ent} (hs : EntR h cs e) (hle : GLe h h') : EntR h' cs e := by
  obtain ⟨p, d, h1, h2, h3⟩ := hs
  exact ⟨p, d, h1, h2.mono hle fun _ _ h => h, h3.mono hle fun _ _ h => h⟩

theorem EntsR.mono {h h' : GH} {v : Value} {l : List Ent} (hs : EntsR h v l) (hle : GLe h h') : EntsR h' v l := SlR.mono hs hle fun _ _ h => h.mono hle
theorem MsgR.mono {h h' : GH} {cs : List Value} {m : Msg} (hs : MsgR h cs m) (hle : GLe h h') : MsgR h' cs m := by
  obtain ⟨p, h1, h2⟩ := hs; exact ⟨p, h1, h2.mono hle⟩
theorem StaR.mono {h h' : GH} {cs : List Value} {m : Sta} (hs : StaR h cs m) (hle : GLe h h') : StaR h' cs m := by
  obtain ⟨p, h1, h2⟩ := hs; exact ⟨p, h1, h2.mono hle⟩

section sl
variable {α : Type} {h : GH} {sz : Nat} {R : List Value → α → Prop} {v : Value} {l : List α}

theorem SlR.isSlice (hs : SlR h sz R v l) : ∃ a c, v = .slice a l.length c := by
  obtain ⟨ao, cap, h1, _⟩ := hs; exact ⟨ao, cap, h1⟩
theorem SlR.len (hs : SlR h sz R v l) : l.length ≤ 140737488351232 := by
  obtain ⟨ao, cap, _, _, h3, _⟩ := hs; exact h3

/-- What is known of a slot that holds such a slice. -/
theorem SlR.cell (hs : SlR h sz R v l) (N : Nat) (β : Nat → Nat) : CellOk N β (.sl v l.length) v := ⟨rfl, hs.isSlice⟩
theorem SlR.sv (hs : SlR h sz R v l) (N : Nat) (β : Nat → Nat) : SV1Ok N β (.atom (.sl v l.length)) v := hs.cell N β

def elemAddr (v : Value) (sz i : Nat) : Addr := match v with
  | .slice (some a) _ _ => a.add (i * sz)
  | _ => ⟨0, 0, none⟩

variable {P : Program} {T E : TypeId}

theorem SlR.index (hs : SlR h sz R v l) (hu : P.underlying T = some (.slice E)) (hz : sizeP P E = some sz) {i : Nat} (hi : i < l.length) (w : World) :
    (Instr.indexAt T v (.int .i64 i)).run P w = .ok (.pointer (some (elemAddr v sz i))) w := by
  obtain ⟨ao, cap, rfl, h2, h3, h4⟩ := hs
  rcases h4 with rfl | ⟨b, off, arr, T', fr, rfl, e2, e3, e4⟩
  · simp at hi
  · have hc : (0 : Int) ≤ (i : Int) ∧ (i : Int) < (l.length : Int) := ⟨by omega, by omega⟩
    simp only [Instr.indexAt, asIntOf, Sem.run_bind, Sem.run_pure, Result.andThen_ok, run_underlying hu, Sem.run_ite, if_pos hc, run_sizeP hz, Int.toNat_natCast, elemAddr]

theorem SlR.loadA (hs : SlR h sz R v l) (hz : sizeP P E = some sz) {d : TypeDesc} (hd : P.underlying E = some d) (hag : isAggD d = true) {i : Nat} {x : α} (hx : l[i]? = some x) :
    ∃ arr : Array Value, R arr.toList x ∧ ∀ w, Sub h w → (Instr.loadAt E (.pointer (some (elemAddr v sz i)))).run P w = .ok (.agg arr) w := by
  obtain ⟨ao, cap, rfl, h2, h3, h4⟩ := hs
  have hi : i < l.length := (List.getElem?_eq_some_iff.1 hx).1
  rcases h4 with rfl | ⟨b, off, arr, T', fr, rfl, e2, e3, e4⟩
  · simp at hi
  · have hR := e4 i x hx
    have hle : (i + 1) * sz ≤ l.length * sz := Nat.mul_le_mul_right _ hi
    rw [Nat.add_mul, Nat.one_mul] at hle
    have ha : elemAddr (.slice (some ⟨b, off, none⟩) l.length cap) sz i = ⟨b, off + i * sz, none⟩ := by simp [elemAddr, Addr.add_lit]
    rw [ha]
    refine ⟨((arr.toList.drop (off + i * sz)).take sz).toArray, by simpa using hR, fun w hw => ?_⟩
    simp only [Instr.loadAt, Instr.sureAddr, loadVar, Sem.run_bind, Sem.run_pure, Result.andThen_ok, run_isAggP hd, hag, if_true, run_sizeP hz, run_loadCells_heap (hw _ _ e2) (off := off + i * sz) (m := sz) (by omega)]

theorem SlR.load1 (hs : SlR h 1 R v l) {d : TypeDesc} (hd : P.underlying E = some d) (hag : isAggD d = false) {i : Nat} {x : α} (hx : l[i]? = some x) :
    ∃ u : Value, R [u] x ∧ ∀ w, Sub h w → (Instr.loadAt E (.pointer (some (elemAddr v 1 i)))).run P w = .ok u w := by
  obtain ⟨ao, cap, rfl, h2, h3, h4⟩ := hs
  have hi : i < l.length := (List.getElem?_eq_some_iff.1 hx).1
  rcases h4 with rfl | ⟨b, off, arr, T', fr, rfl, e2, e3, e4⟩
  · simp at hi
  · have hR := e4 i x hx
    have ha : elemAddr (.slice (some ⟨b, off, none⟩) l.length cap) 1 i = ⟨b, off + i * 1, none⟩ := by simp [elemAddr, Addr.add_lit]
    rw [ha]
    have hlt : off + i * 1 < arr.size := by omega
    refine ⟨arr[off + i * 1], ?_, fun w hw => ?_⟩
    · have : (arr.toList.drop (off + i * 1)).take 1 = [arr[off + i * 1]] := by
        rw [List.drop_eq_getElem_cons (by simpa using hlt)]; simp
      rw [this] at hR; exact hR
    · have : w.cell? ⟨b, off + i * 1, none⟩ = some arr[off + i * 1] := by rw [cell_of_heap (hw _ _ e2)]; simp
      simp only [Instr.loadAt, Instr.sureAddr, loadVar, Sem.run_bind, Sem.run_pure, Result.andThen_ok, run_isAggP hd, hag, Bool.false_eq_true, if_false, run_load, this]
end sl
end Go.Proofs.Ytkjahaoobdbffaa
