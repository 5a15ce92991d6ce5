/- The base of this seat's proofs, thirteenth part: strings appended to bytes; pointers handed in; what a pointer's list of numbers holds. -/
import Derived.Lib.AppendStr
import Derived.Test.YtkjahaoobdbffaaB12
namespace Go.Proofs.Ytkjahaoobdbffaa
open Go Go.RowKit

/-- A string appended to bytes of the call's own, with where the new slice lies. -/
theorem run_append_str_at {P : Program} (w : World) (t u ty e : TypeId) (i : TypeInfo) (ht : P.underlying t = some (.slice e)) (hu : P.underlying u = some .string) (hi : P.info? e = some i) (hz : i.zero = some (.int .u8 0))
    (hsize : i.size = 1) (hby : i.bytes = 1) (v : Value) (n : Nat) (xs : List Value) (hown : w.ownsRow 0 e 1 v n xs) (s : ByteArray) (hmax : n + s.size ≤ 140737488351232) :
    ∃ v' w', (Builtin.append_ #[t, u] ty #[v, .string s]).run P w = .ok v' w' ∧ w'.ownsRow 0 e 1 v' (n + s.size) (xs ++ Lib.strCells s) ∧ w.grownBy w' v.ownBlock ∧ (v'.ownBlock = v.ownBlock ∨ v'.ownBlock = some w.heap.size) := by
  obtain ⟨v', w', hr, h2, h3, h4⟩ := Lib.run_append_own_string (P := P) w 0 t u ty e i ht hu hi hz hsize hby v n xs hown s (by unfold maxLen; omega) (by omega) (Nat.zero_le _)
  refine ⟨v', w', hr, h2, h3, ?_⟩
  have hxl : xs.length = n := by simpa using hown.1
  rcases hown.2 with ⟨rfl, rfl⟩ | ⟨g, cap, cur, rfl, hbg, hg, hnc, hcm, hcs, htake⟩
  · by_cases hm : s.size = 0
    · rw [h4.2 ⟨rfl, hm⟩]; exact .inl rfl
    · have hr' := run_append_nil_string (P := P) w t u ty e i (.int .u8 0) ht hu hi hz s (by omega) (by omega) (by rw [hby]; omega)
      rw [hr] at hr'
      injection hr' with h5 h6
      subst h5
      exact .inr rfl
  · by_cases hroom : n + s.size ≤ cap
    · have hcs' : cur.size = cap := by simpa using hcs
      have hr' := Lib.run_append_room_string (P := P) w t u ty e i ht hu hi hsize g n cap cur hg s hroom (by omega)
      rw [hr] at hr'
      injection hr' with h5 h6
      subst h5
      exact .inl rfl
    · have holds : ∀ j u, xs[j]? = some u → w.cell? ((⟨g, 0, none⟩ : Addr).add j) = some u := hown.cells (g := g) rfl
      have hr' := Lib.run_append_grow_string (P := P) w t u ty e i (.int .u8 0) ht hu hi hz ⟨g, 0, none⟩ n cap xs (by rw [hsize]; simpa using hxl) holds s (by omega) (by omega) (by rw [hby]; exact growslice_fits (by omega) (by omega))
      rw [hr] at hr'
      injection hr' with h5 h6
      subst h5
      exact .inr rfl

structure StrT (P : Program) (T U e : TypeId) : Prop where
  hT : P.underlying T = some (.slice e)
  hU : P.underlying U = some .string
  hz : ∃ i, P.info? e = some i ∧ i.zero = some (.int .u8 0) ∧ i.size = 1 ∧ i.bytes = 1

def isU8zero : Value → Bool
  | .int .u8 (.ofNat 0) => true
  | _ => false

def strTOk (P : Program) (e : TypeId) : Bool := match P.info? e with
  | some i => (match i.zero with
    | some z => isU8zero z && i.size == 1 && i.bytes == 1
    | none => false)
  | none => false

theorem StrT.of {P : Program} {T U e : TypeId} (hT : P.underlying T = some (.slice e)) (hU : P.underlying U = some .string) (hk : strTOk P e = true) : StrT P T U e := by
  refine ⟨hT, hU, ?_⟩
  unfold strTOk at hk
  split at hk
  next i hi =>
    split at hk
    next z hz =>
      simp only [Bool.and_eq_true, beq_iff_eq] at hk
      refine ⟨i, hi, ?_, hk.1.2, hk.2⟩
      rw [hz]
      have h1 := hk.1.1
      unfold isU8zero at h1
      split at h1
      · rfl
      · simp at h1
    · simp at hk
  · simp at hk

theorem app_str {P : Program} {hE : GH} {w0 : World} {inc : List Nat} {n : Nat} {s : S} {h : GH} {β : Nat → Nat} {w : World} {tmps : Array Value} (hS : Sim hE w0 inc n s h β w tmps) {T U e ty : TypeId} (hEl : StrT P T U e) {k : Nat} {v : Value} {m : Nat} {xs : List Value}
    (ho : ow k s.owns = some ⟨e, 1, v, m, xs⟩) (b : ByteArray) (hmax : m + b.size ≤ 140737488351232) :
    ∃ v' w', (Builtin.append_ #[T, U] ty #[v, .string b]).run P w = .ok v' w' ∧ (∃ a' c', v' = .slice a' (m + b.size) c') ∧ Sim hE w0 inc n (setOwn k ⟨e, 1, v', m + b.size, xs ++ Lib.strCells b⟩ s) h β w' tmps ∧ w.grownBy w' v.ownBlock := by
  obtain ⟨i, hi, hz, hsz, hb⟩ := hEl.hz
  have hrow := hS.own k _ ho
  simp only at hrow
  obtain ⟨v', w', hr, h2, h3, h5⟩ := run_append_str_at (P := P) w T U ty e i hEl.hT hEl.hU hi hz hsz hb v m xs hrow b hmax
  refine ⟨v', w', hr, ?_, hS.reown ho h3 h2 h5, h3⟩
  rcases h2.2 with ⟨rfl, h0⟩ | ⟨g, cap, cur, rfl, _⟩
  · exact ⟨none, 0, by rw [h0]⟩
  · exact ⟨_, _, rfl⟩

/-- **append of a string's bytes**, inside a region of open order. -/
theorem GDop.appStr {C : Ctx} {h0 h : GH} {ops : Array Oper} {kk : List Item} {ks : List Nat} {dd : DCfg} {i : Nat} {T U e : TypeId} (hEl : StrT C.P T U e) (k : Nat) {v : Value} {m : Nat} {xs : List Value} {b : ByteArray} {d : Option Nat} (ha : appAtD ops dd i = some ⟨T, U, .atom (.sl v m), .atom (.str b), d⟩) (hd : dstOk C.n d = true)
    (ho : ow k dd.s.owns = some ⟨e, 1, v, m, xs⟩) (hmax : m + b.size ≤ 140737488351232)
    (hk : ∀ v', GD C h0 h ops kk ks (afterN ops dd i (setOwn k ⟨e, 1, v', m + b.size, xs ++ Lib.strCells b⟩ dd.s) (.one (.atom (.sl v' (m + b.size)))))) : GDop C h0 h ops kk ks dd i := by
  unfold appAtD at ha
  split at ha
  case h_2 => simp at ha
  rename_i o hi
  intro β w tmps L hS
  obtain ⟨hg, hdd, _⟩ := appOf_ok (P := C.P) hS ha
  refine GDop.opR hi hg (hdd ▸ hd) ?_ β w tmps L hS
  intro β w tmps hS
  obtain ⟨_, _, a, x, hav, hbv, hrun⟩ := appOf_ok (P := C.P) hS ha
  simp only [SV1Ok, CellOk] at hav hbv
  obtain ⟨rfl, _⟩ := hav
  subst hbv
  obtain ⟨v', w', h1, h2, h3, h4⟩ := app_str hS hEl (ty := o.type) ho b hmax
  refine ⟨v', w', β, h, _, .one (.atom (.sl v' (m + b.size))), hrun _ _ h1, h3, fun tmps' => ⟨rfl, h2⟩, GLe.refl h, fun x hx => ?_, hk v'⟩
  rintro ⟨bb, hbb⟩
  exact ⟨rfl, h4.block _ (hS.box x bb hbb).lt fun e => (hS.ownB k _ _ ho e.symm).2.1 x bb hbb rfl, bb, hbb⟩

/-- A slice of the call's own is a slice of that length. -/
theorem G.ownForm {C : Ctx} {h : GH} {c : Cfg} (k : Nat) {e : TypeId} {sz n : Nat} {v : Value} {xs : List Value} (ho : ow k c.s.owns = some ⟨e, sz, v, n, xs⟩) (hk : (∃ a c, v = .slice a n c) → G C h c) : G C h c := by
  intro β w tmps hS
  refine hk ?_ β w tmps hS
  have := hS.own k _ ho
  simp only at this
  rcases this.2 with ⟨rfl, h0⟩ | ⟨g, cap, cur, rfl, _⟩
  · exact ⟨none, 0, by rw [h0]⟩
  · exact ⟨_, _, rfl⟩

/-- A pointer's value told by the block's key. -/
theorem G.toPtr {C : Ctx} {h : GH} {c : Cfg} (t k : Nat) {b off : Nat} {x : BoxB} (hl : lk t c.s.slots = .one (.atom (.raw (.pointer (some ⟨b, off, none⟩))))) (hb : bx k c.s.boxes = some ⟨some b, x⟩)
    (hk : G C h ⟨c.todo, { c.s with slots := (t, .one (.atom (.ptr k off))) :: c.s.slots }⟩) : G C h c := by
  intro β w tmps hS
  refine hk β w tmps ⟨hS.size, fun x => ?_, hS.box, hS.inj, hS.keys, hS.fresh, hS.ghost, hS.gno, hS.frame, hS.gle, hS.gold, hS.own, hS.ownB, hS.ownI⟩
  show SVOk c.s.nb β tmps (lk x ((t, .one (.atom (.ptr k off))) :: c.s.slots)) _
  rw [lk_put]
  by_cases e : t = x
  · subst e
    rw [if_pos rfl]
    have h1 := hS.slots t
    rw [hl] at h1
    have h2 := hS.fresh k _ hb
    simp only at h2
    have h3 : tmps.getD t undef = .pointer (some ⟨b, off, none⟩) := h1.1
    exact ⟨by rw [h3, h2.1], hS.keys k _ hb⟩
  · rw [if_neg e]
    have hs := hS.slots x
    cases hx : lk x c.s.slots with
    | one v => rw [hx] at hs; exact hs
    | tup v => rw [hx] at hs; exact hs
    | gd g b v =>
      rw [hx] at hs
      simp only
      split
      · exact trivial
      · exact hs
end Go.Proofs.Ytkjahaoobdbffaa
