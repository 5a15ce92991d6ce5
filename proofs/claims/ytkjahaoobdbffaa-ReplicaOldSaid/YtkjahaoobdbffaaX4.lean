/- Merged: B13 B14 B15 B16 B17 B18 B19 P1 B20 -/
import Derived.Lib.AppendStr
import Derived.MapKept
import Derived.Laws.IdiomRangeMap
import Derived.Test.YtkjahaoobdbffaaX3

/- The base of this seat's proofs, thirteenth part: strings appended to bytes; pointers handed in; what a pointer's list of numbers holds. -/
namespace Go.Proofs.Ytkjahaoobdbffaa
open Go Go.RowKit

/-- A string appended to bytes of the call's own, with where the new slice lies. -/
theorem run_append_str_at {P : Program} (w : World) (t u ty e : TypeId) (i : TypeInfo) (ht : P.underlying t = some (.slice e)) (hu : P.underlying u = some .string) (hi : P.info? e = some i) (hz : i.zero = some (.int .u8 0))
    (hsize : i.size = 1) (hby : i.bytes = 1) (v : Value) (n : Nat) (xs : List Value) (hown : w.ownsRow 0 e 1 v n xs) (s : ByteArray) (hmax : n + s.size ≤ 140737488351232) :
    ∃ v' w', (Builtin.append_ #[t, u] ty #[v, .string s]).run P w = .ok v' w' ∧ w'.ownsRow 0 e 1 v' (n + s.size) (xs ++ Lib.strCells s) ∧ w.grownBy w' v.ownBlock ∧ (v'.ownBlock = v.ownBlock ∨ v'.ownBlock = some w.heap.size) := by
  obtain ⟨v', w', hr, h2, h3, h4⟩ := Lib.run_append_own_string (P := P) w 0 t u ty e i ht hu hi hz hsize hby v n xs hown s (by unfold maxLen; omega) (by omega) (Nat.zero_le _)
  refine ⟨v', w', hr, h2, h3, ?_⟩
  have hxl : xs.length = n := by simpa using hown.1
  rcases hown.2 with ⟨rfl, rfl⟩ | ⟨g, cap, cur, rfl, hbg, hg, hnc, hcm, hcs, htake⟩
  · by_cases hm : s.size = 0
    · rw [h4.2 ⟨rfl, hm⟩]; exact .inl rfl
    · have hr' := run_append_nil_string (P := P) w t u ty e i (.int .u8 0) ht hu hi hz s (by omega) (by omega) (by rw [hby]; omega)
      rw [hr] at hr'
      injection hr' with h5 h6
      subst h5
      exact .inr rfl
  · by_cases hroom : n + s.size ≤ cap
    · have hcs' : cur.size = cap := by simpa using hcs
      have hr' := Lib.run_append_room_string (P := P) w t u ty e i ht hu hi hsize g n cap cur hg s hroom (by omega)
      rw [hr] at hr'
      injection hr' with h5 h6
      subst h5
      exact .inl rfl
    · have holds : ∀ j u, xs[j]? = some u → w.cell? ((⟨g, 0, none⟩ : Addr).add j) = some u := hown.cells (g := g) rfl
      have hr' := Lib.run_append_grow_string (P := P) w t u ty e i (.int .u8 0) ht hu hi hz ⟨g, 0, none⟩ n cap xs (by rw [hsize]; simpa using hxl) holds s (by omega) (by omega) (by rw [hby]; exact growslice_fits (by omega) (by omega))
      rw [hr] at hr'
      injection hr' with h5 h6
      subst h5
      exact .inr rfl

structure StrT (P : Program) (T U e : TypeId) : Prop where
  hT : P.underlying T = some (.slice e)
  hU : P.underlying U = some .string
  hz : ∃ i, P.info? e = some i ∧ i.zero = some (.int .u8 0) ∧ i.size = 1 ∧ i.bytes = 1

def isU8zero : Value → Bool
  | .int .u8 (.ofNat 0) => true
  | _ => false

def strTOk (P : Program) (e : TypeId) : Bool := match P.info? e with
  | some i => (match i.zero with
    | some z => isU8zero z && i.size == 1 && i.bytes == 1
    | none => false)
  | none => false

theorem StrT.of {P : Program} {T U e : TypeId} (hT : P.underlying T = some (.slice e)) (hU : P.underlying U = some .string) (hk : strTOk P e = true) : StrT P T U e := by
  refine ⟨hT, hU, ?_⟩
  unfold strTOk at hk
  split at hk
  next i hi =>
    split at hk
    next z hz =>
      simp only [Bool.and_eq_true, beq_iff_eq] at hk
      refine ⟨i, hi, ?_, hk.1.2, hk.2⟩
      rw [hz]
      have h1 := hk.1.1
      unfold isU8zero at h1
      split at h1
      · rfl
      · simp at h1
    · simp at hk
  · simp at hk

theorem app_str {P : Program} {hE : GH} {w0 : World} {inc : List Nat} {n : Nat} {s : S} {h : GH} {β : Nat → Nat} {w : World} {tmps : Array Value} (hS : Sim hE w0 inc n s h β w tmps) {T U e ty : TypeId} (hEl : StrT P T U e) {k : Nat} {v : Value} {m : Nat} {xs : List Value}
    (ho : ow k s.owns = some ⟨e, 1, v, m, xs⟩) (b : ByteArray) (hmax : m + b.size ≤ 140737488351232) :
    ∃ v' w', (Builtin.append_ #[T, U] ty #[v, .string b]).run P w = .ok v' w' ∧ (∃ a' c', v' = .slice a' (m + b.size) c') ∧ Sim hE w0 inc n (setOwn k ⟨e, 1, v', m + b.size, xs ++ Lib.strCells b⟩ s) h β w' tmps ∧ w.grownBy w' v.ownBlock := by
  obtain ⟨i, hi, hz, hsz, hb⟩ := hEl.hz
  have hrow := hS.own k _ ho
  simp only at hrow
  obtain ⟨v', w', hr, h2, h3, h5⟩ := run_append_str_at (P := P) w T U ty e i hEl.hT hEl.hU hi hz hsz hb v m xs hrow b hmax
  refine ⟨v', w', hr, ?_, hS.reown ho h3 h2 h5, h3⟩
  rcases h2.2 with ⟨rfl, h0⟩ | ⟨g, cap, cur, rfl, _⟩
  · exact ⟨none, 0, by rw [h0]⟩
  · exact ⟨_, _, rfl⟩

/-- **append of a string's bytes**, inside a region of open order. -/
theorem GDop.appStr {C : Ctx} {h0 h : GH} {ops : Array Oper} {kk : List Item} {ks : List Nat} {dd : DCfg} {i : Nat} {T U e : TypeId} (hEl : StrT C.P T U e) (k : Nat) {v : Value} {m : Nat} {xs : List Value} {b : ByteArray} {d : Option Nat} (ha : appAtD ops dd i = some ⟨T, U, .atom (.sl v m), .atom (.str b), d⟩) (hd : dstOk C.n d = true)
    (ho : ow k dd.s.owns = some ⟨e, 1, v, m, xs⟩) (hmax : m + b.size ≤ 140737488351232)
    (hk : ∀ v', GD C h0 h ops kk ks (afterN ops dd i (setOwn k ⟨e, 1, v', m + b.size, xs ++ Lib.strCells b⟩ dd.s) (.one (.atom (.sl v' (m + b.size)))))) : GDop C h0 h ops kk ks dd i := by
  unfold appAtD at ha
  split at ha
  case h_2 => simp at ha
  rename_i o hi
  intro β w tmps L hS
  obtain ⟨hg, hdd, _⟩ := appOf_ok (P := C.P) hS ha
  refine GDop.opR hi hg (hdd ▸ hd) ?_ β w tmps L hS
  intro β w tmps hS
  obtain ⟨_, _, a, x, hav, hbv, hrun⟩ := appOf_ok (P := C.P) hS ha
  simp only [SV1Ok, CellOk] at hav hbv
  obtain ⟨rfl, _⟩ := hav
  subst hbv
  obtain ⟨v', w', h1, h2, h3, h4⟩ := app_str hS hEl (ty := o.type) ho b hmax
  refine ⟨v', w', β, h, _, .one (.atom (.sl v' (m + b.size))), hrun _ _ h1, h3, fun tmps' => ⟨rfl, h2⟩, GLe.refl h, fun x hx => ?_, hk v'⟩
  rintro ⟨bb, hbb⟩
  exact ⟨rfl, h4.block _ (hS.box x bb hbb).lt fun e => (hS.ownB k _ _ ho e.symm).2.1 x bb hbb rfl, bb, hbb⟩

/-- A slice of the call's own is a slice of that length. -/
theorem G.ownForm {C : Ctx} {h : GH} {c : Cfg} (k : Nat) {e : TypeId} {sz n : Nat} {v : Value} {xs : List Value} (ho : ow k c.s.owns = some ⟨e, sz, v, n, xs⟩) (hk : (∃ a c, v = .slice a n c) → G C h c) : G C h c := by
  intro β w tmps hS
  refine hk ?_ β w tmps hS
  have := hS.own k _ ho
  simp only at this
  rcases this.2 with ⟨rfl, h0⟩ | ⟨g, cap, cur, rfl, _⟩
  · exact ⟨none, 0, by rw [h0]⟩
  · exact ⟨_, _, rfl⟩

/-- A pointer's value told by the block's key. -/
theorem G.toPtr {C : Ctx} {h : GH} {c : Cfg} (t k : Nat) {b off : Nat} {x : BoxB} (hl : lk t c.s.slots = .one (.atom (.raw (.pointer (some ⟨b, off, none⟩))))) (hb : bx k c.s.boxes = some ⟨some b, x⟩)
    (hk : G C h ⟨c.todo, { c.s with slots := (t, .one (.atom (.ptr k off))) :: c.s.slots }⟩) : G C h c := by
  intro β w tmps hS
  refine hk β w tmps ⟨hS.size, fun x => ?_, hS.box, hS.inj, hS.keys, hS.fresh, hS.ghost, hS.gno, hS.frame, hS.gle, hS.gold, hS.own, hS.ownB, hS.ownI⟩
  show SVOk c.s.nb β tmps (lk x ((t, .one (.atom (.ptr k off))) :: c.s.slots)) _
  rw [lk_put]
  by_cases e : t = x
  · subst e
    rw [if_pos rfl]
    have h1 := hS.slots t
    rw [hl] at h1
    have h2 := hS.fresh k _ hb
    simp only at h2
    have h3 : tmps.getD t undef = .pointer (some ⟨b, off, none⟩) := h1.1
    exact ⟨by rw [h3, h2.1], hS.keys k _ hb⟩
  · rw [if_neg e]
    have hs := hS.slots x
    cases hx : lk x c.s.slots with
    | one v => rw [hx] at hs; exact hs
    | tup v => rw [hx] at hs; exact hs
    | gd g b v =>
      rw [hx] at hs
      simp only
      split
      · exact trivial
      · exact hs
end Go.Proofs.Ytkjahaoobdbffaa

/- The base of this seat's proofs, fourteenth part: blocks whose cells are not told one by one. -/
namespace Go.Proofs.Ytkjahaoobdbffaa
open Go Go.RowKit

def setBox (k : Nat) (x : BoxB) (s : S) : S := match bx k s.boxes with
  | some b => { s with boxes := (k, ⟨b.inc, x⟩) :: s.boxes }
  | none => s

/-- A block told another way. -/
theorem G.rebox {C : Ctx} {h : GH} {c : Cfg} (k : Nat) {b : Box} {x : BoxB} (hb : bx k c.s.boxes = some b) (hx : ∀ β w, BoxOk c.s.nb β w (β k) b.body → BoxOk c.s.nb β w (β k) x) (hk : G C h ⟨c.todo, { c.s with boxes := (k, ⟨b.inc, x⟩) :: c.s.boxes }⟩) : G C h c := by
  intro β w tmps hS
  have key : ∀ (j : Nat) (y : Box), bx j ((k, ⟨b.inc, x⟩) :: c.s.boxes) = some y → ∃ z, bx j c.s.boxes = some z ∧ z.inc = y.inc ∧ BoxOk c.s.nb β w (β j) y.body := by
    intro j y hy
    rw [bx_cons] at hy
    split at hy
    · rename_i e; subst e
      simp only [Option.some.injEq] at hy; subst hy
      exact ⟨b, hb, rfl, hx β w (hS.box _ _ hb)⟩
    · exact ⟨y, hy, rfl, hS.box _ _ hy⟩
  refine hk β w tmps ⟨hS.size, hS.slots, fun j y hy => ?_, fun j l y z hy hz hne => ?_, fun j y hy => ?_, fun j y hy => ?_, hS.ghost, fun j y hy => ?_, hS.frame, hS.gle, hS.gold, hS.own, fun l o g ho hg => ?_, hS.ownI⟩
  · obtain ⟨z, -, -, h3⟩ := key j y hy; exact h3
  · obtain ⟨y', h1, -⟩ := key j y hy
    obtain ⟨z', h2, -⟩ := key l z hz
    exact hS.inj j l y' z' h1 h2 hne
  · obtain ⟨y', h1, -⟩ := key j y hy; exact hS.keys j y' h1
  · obtain ⟨y', h1, h2, -⟩ := key j y hy
    have := hS.fresh j y' h1
    rw [h2] at this; exact this
  · obtain ⟨y', h1, -⟩ := key j y hy; exact hS.gno j y' h1
  · obtain ⟨h1, h2, h3⟩ := hS.ownB l o g ho hg
    exact ⟨h1, fun j y hy => by obtain ⟨y', h4, -⟩ := key j y hy; exact h2 j y' h4, h3⟩

theorem BoxOk.toObj {N : Nat} {β : Nat → Nat} {w : World} {b : Nat} {T : TypeId} {cs : List Cell} {vs : List Value} (hv : cellVals cs = some vs) (h : BoxOk N β w b (.lit T cs)) : BoxOk N β w b (.obj (.cells vs.toArray T (0, 0))) := by
  obtain ⟨arr, h1, h2⟩ := h
  have := cellVals_ok hv h2
  subst this
  simpa [BoxOk] using h1

theorem BoxOk.toLit {N : Nat} {β : Nat → Nat} {w : World} {b : Nat} {T : TypeId} {cs : List Cell} {arr : Array Value} (hv : CellsOk N β cs arr.toList) (h : BoxOk N β w b (.obj (.cells arr T (0, 0)))) : BoxOk N β w b (.lit T cs) := ⟨arr, h, hv⟩

structure StoreView where
  T : TypeId
  k : Nat
  off : Nat
  v : Value

def storeOf (s : S) (o : Oper) : Option StoreView := match o.op with
  | .store T x y => match o.guard, o.dst with
    | none, none => match evS s [] x, evS s [] y with
      | some (.atom (.ptr k off)), some sv => match sv.val with
        | some v => some ⟨T, k, off, v⟩
        | none => none
      | _, _ => none
    | _, _ => none
  | _ => none

def storeAtC (c : Cfg) : Option StoreView := match opAtC c with
  | some o => storeOf c.s o
  | none => none

def putCell (arr : Array Value) (off : Nat) (v : Value) : Array Value := (arr.toList.take off ++ [v] ++ arr.toList.drop (off + 1)).toArray

theorem putCell_size {arr : Array Value} {off : Nat} {v : Value} (h : off < arr.size) : (putCell arr off v).size = arr.size := by
  simp [putCell]; omega

theorem storeOf_ok {P : Program} {hE : GH} {w0 : World} {inc : List Nat} {n : Nat} {s : S} {h : GH} {β : Nat → Nat} {w : World} {tmps : Array Value} (hS : Sim hE w0 inc n s h β w tmps) {o : Oper} {T : TypeId} {k off : Nat} {v : Value} (hv : storeOf s o = some ⟨T, k, off, v⟩)
    {bi : Option Nat} {arr : Array Value} {T' : TypeId} (hb : bx k s.boxes = some ⟨bi, .obj (.cells arr T' (0, 0))⟩) (hoff : off < arr.size) (hone : v.oneCell' = true) (hz : sizeP P T = some 1) :
    o.guard = none ∧ o.dst = none ∧ (execOp (evT tmps) o).run P w = .ok .skip (w.setRow (β k) (putCell arr off v)) ∧ Sim hE w0 inc n { s with boxes := (k, ⟨bi, .obj (.cells (putCell arr off v) T' (0, 0))⟩) :: s.boxes } h β (w.setRow (β k) (putCell arr off v)) tmps := by
  unfold storeOf at hv
  split at hv
  · rename_i T0 x y hop
    split at hv
    · rename_i hg hd
      split at hv
      · rename_i k0 off0 sv hx hy
        split at hv
        · rename_i v0 hval
          simp only [Option.some.injEq, StoreView.mk.injEq] at hv
          obtain ⟨rfl, rfl, rfl, rfl⟩ := hv
          have hp := evS_atom hS GOk.nil hx
          simp only [CellOk] at hp
          have hvv := SV1.val_ok hval (evS_ok hS GOk.nil hy)
          have hh : w.heap[β k0]? = some (.cells arr T' (0, 0)) := hS.box _ _ hb
          have hcell : v0.cells = #[v0] := by cases v0 <;> simp_all [Value.cells, Value.oneCell']
          have hst := run_storeCells_at P (β k0) off0 T' [v0] 0 arr w hh (by simp; omega) (by simpa using hone)
          simp only [Nat.add_zero, List.length_cons, List.length_nil] at hst
          refine ⟨hg, hd, ?_, ?_⟩
          · simp [execOp, hop, Instr.storeAt, Instr.sureAddr, hp.1, storeVar, run_sizeP hz, hvv, hcell, hst, putCell]
          · have hnew : (w.setRow (β k0) (putCell arr off0 v0)).heap[β k0]? = some (.cells (putCell arr off0 v0) T' (0, 0)) := setRow_heap w (β k0) arr _ T' (0, 0) hh
            have hold : ∀ x, x ≠ β k0 → (w.setRow (β k0) (putCell arr off0 v0)).heap[x]? = w.heap[x]? := fun x hx => setRow_other hx
            have hfr := hS.fresh k0 _ hb
            have hkg := hS.gno k0 _ hb
            refine hS.after (inc' := [β k0]) rfl rfl ⟨rfl, rfl, rfl, by simp [World.setRow], fun b hb' hn => hold b (by simpa using hn)⟩ (fun b hbm => ?_) (fun j y hy => ?_) (fun l p hl => ?_) hS.ownI (GLe.refl h) (fun _ _ _ => rfl) (fun b o hbo => ?_)
            · simp only [List.mem_singleton] at hbm; subst hbm
              refine ⟨hkg, ?_⟩
              cases bi with
              | none => exact .inr hfr
              | some m => simp only at hfr; rw [hfr.1]; exact hfr.2
            · rw [bx_cons] at hy
              split at hy
              · rename_i e; subst e
                simp only [Option.some.injEq] at hy; subst hy
                exact ⟨_, hb, rfl, hnew, hkg⟩
              · rename_i e
                exact ⟨y, hy, rfl, (hS.box j y hy).of_block (hold _ (hS.inj j k0 y _ hy hb fun e' => e e'.symm)), hS.gno j y hy⟩
            · refine ⟨ownsRow_of_block (hS.own l p hl) fun g hg => hold g fun e => (hS.ownB l p g hl hg).2.1 k0 _ hb e.symm, fun g hg => hS.ownB l p g hl hg⟩
            · have hne : b ≠ β k0 := fun e => by rw [e, hkg] at hbo; cases hbo
              rw [hold b hne]; exact hS.ghost b o hbo
        · simp at hv
      · simp at hv
    · simp at hv
  · simp at hv

/-- A guarded operation without effect, computed, where several may come up. -/
def effGAt (P : Program) (n : Nat) (ops : Array Oper) (d : DCfg) (i : Nat) : Option DCfg := match ops[i]? with
  | some o => match o.guard, o.dst with
    | some (j, want), some dd => match (ops[j]?).bind (·.dst) with
      | some tg => match opEval P d.s (chain d.s 4 tg want) o.op with
        | some (v, .no) => if Nat.blt dd n && Nat.blt tg n && !(Nat.beq tg dd) then some (nextD d i (putS d.s (some dd) (.gd tg want v))) else none
        | _ => none
      | none => none
    | _, _ => none
  | none => none

theorem GDop.effG {C : Ctx} {h0 h : GH} {ops : Array Oper} {k : List Item} {ks : List Nat} {d : DCfg} {i : Nat} (he : (effGAt C.P C.n ops d i).isSome = true) (hk : GD C h0 h ops k ks ((effGAt C.P C.n ops d i).getD d)) : GDop C h0 h ops k ks d i := by
  obtain ⟨d', hd'⟩ := Option.isSome_iff_exists.1 he
  rw [hd'] at hk
  simp only [Option.getD_some] at hk
  unfold effGAt at hd'
  split at hd'
  · rename_i o hi
    split at hd'
    · rename_i j want dd hg hdst
      split at hd'
      · rename_i tg hj
        split at hd'
        · rename_i v hev
          split at hd'
          · rename_i hd
            simp only [Option.some.injEq] at hd'; subst hd'
            intro β w tmps L hS hL hlive hle
            simp only [Bool.and_eq_true, Bool.not_eq_true'] at hd
            have htg : tg < C.n := Nat.le_of_ble_eq_true hd.1.2
            have hne : dd ≠ tg := fun e => by have := hd.2; rw [e, Nat.beq_refl] at this; cases this
            have hwi := wanted_of (tmps := tmps) hg hj (by rw [hS.size]; exact htg)
            by_cases hwt : Region.wanted o (yielded ops tmps) = true
            · have htrue := hwi.1 hwt
              obtain ⟨u, h1, h2⟩ := opEval_ok (P := C.P) hS (chain_ok hS 4 tg want htrue) hev
              refine wpOp_value hi hwt (h2 w fun _ _ _ => rfl) ⟨by rw [hL]; exact Stays.of_sim hS hle ks, ?_⟩
              rw [act_put, hdst]
              refine hk β w (putT tmps (some dd) u) L (hS.put (Nat.le_of_ble_eq_true hd.1.1) (.inl ⟨?_, h1⟩)) hL hlive hle
              rw [getD_set_other hne]; exact htrue
            · have hfalse : tmps.getD tg undef ≠ .bool want := fun e => hwt (hwi.2 e)
              refine wpOp_unwanted hi (by simpa using hwt) ⟨by rw [hL]; exact Stays.of_sim hS hle ks, ?_⟩
              rw [act_put, hdst]
              refine hk β w (putT tmps (some dd) undef) L (hS.put (Nat.le_of_ble_eq_true hd.1.1) (.inr ⟨?_, rfl⟩)) hL hlive hle
              rw [getD_set_other hne]; exact hfalse
          · simp at hd'
        · simp at hd'
      · simp at hd'
    · simp at hd'
  · simp at hd'

/-- **A store into a block whose cells are not told one by one.** -/
theorem G.storeObj {C : Ctx} {h : GH} {c : Cfg} {T : TypeId} {k off : Nat} {v : Value} (hv : storeAtC c = some ⟨T, k, off, v⟩) {bi : Option Nat} {arr : Array Value} {T' : TypeId} (hb : bx k c.s.boxes = some ⟨bi, .obj (.cells arr T' (0, 0))⟩) (hoff : off < arr.size) (hone : v.oneCell' = true) (hz : sizeP C.P T = some 1)
    (hk : G C h (afterOp (withS c { c.s with boxes := (k, ⟨bi, .obj (.cells (putCell arr off v) T' (0, 0))⟩) :: c.s.boxes }) anyS)) : G C h c := by
  intro β w tmps hS
  obtain ⟨todo, s⟩ := c
  unfold storeAtC opAtC at hv
  simp only at hv
  split at hv
  · rename_i o hop
    split at hop
    · rename_i ops i rest k'
      obtain ⟨hg, hd, hrun, hS'⟩ := storeOf_ok (P := C.P) hS hv hb hoff hone hz
      refine Reach.skip hop (by simp [Region.wanted, hg]) hrun ?_
      rw [put_tmps]
      have := hk β (w.setRow (β k) (putCell arr off v)) tmps
      simp only [afterOp, withS, hop, Option.bind_some, hd, putS] at this ⊢
      exact this hS'
    · simp at hop
  · simp at hv
end Go.Proofs.Ytkjahaoobdbffaa

/- The base of this seat's proofs, fifteenth part: regions of open order where several operations may come up: all orders are gone through by computation. -/
namespace Go.Proofs.Ytkjahaoobdbffaa
open Go Go.RowKit

def nextOf (P : Program) (n : Nat) (ops : Array Oper) (ks : List Nat) (d : DCfg) (i : Nat) : Option DCfg := match effAt P n ops ks d i with
  | some d' => some d'
  | none => effGAt P n ops d i

def nextsOf (P : Program) (n : Nat) (ops : Array Oper) (ks : List Nat) (d : DCfg) : List Nat → Option (List DCfg)
  | [] => some []
  | i :: is => match nextOf P n ops ks d i, nextsOf P n ops ks d is with
    | some x, some xs => some (x :: xs)
    | _, _ => none

def isPos : Nat → Bool
  | 0 => false
  | _ + 1 => true

/-- Where the region's orders lead, as far as it can be computed. -/
def exploreL (P : Program) (n : Nat) (ops : Array Oper) (ks : List Nat) : Nat → DCfg → List DCfg
  | 0, d => [d]
  | m + 1, d =>
    match isPos (runD P n ops ks 100 d).fuel with
    | false => [runD P n ops ks 100 d]
    | true => match nextsOf P n ops ks (runD P n ops ks 100 d) (Region.ready .any ops (runD P n ops ks 100 d).listed) with
      | some (x :: xs) => (x :: xs).flatMap (exploreL P n ops ks m)
      | _ => [runD P n ops ks 100 d]

theorem nextsOf_ok {P : Program} {n : Nat} {ops : Array Oper} {ks : List Nat} {d : DCfg} : ∀ (l : List Nat) (xs : List DCfg), nextsOf P n ops ks d l = some xs → xs.length = l.length ∧ ∀ i ∈ l, ∃ x ∈ xs, nextOf P n ops ks d i = some x := by
  intro l
  induction l with
  | nil => intro xs h; simp [nextsOf] at h; subst h; simp
  | cons j l ih =>
    intro xs h
    simp only [nextsOf] at h
    split at h
    · rename_i x ys h1 h2
      simp only [Option.some.injEq] at h; subst h
      obtain ⟨h3, h4⟩ := ih _ h2
      refine ⟨by simp [h3], fun i hi => ?_⟩
      simp only [List.mem_cons] at hi
      rcases hi with rfl | hi
      · exact ⟨x, by simp, h1⟩
      · obtain ⟨y, h5, h6⟩ := h4 i hi
        exact ⟨y, by simp [h5], h6⟩
    · simp at h

theorem GDop.next {C : Ctx} {h0 h : GH} {ops : Array Oper} {k : List Item} {ks : List Nat} {d x : DCfg} {i : Nat} (hn : nextOf C.P C.n ops ks d i = some x) (hk : GD C h0 h ops k ks x) : GDop C h0 h ops k ks d i := by
  unfold nextOf at hn
  split at hn
  · rename_i d' hd
    simp only [Option.some.injEq] at hn; subst hn
    exact GDop.eff (by rw [hd]; rfl) (by rw [hd]; exact hk)
  · exact GDop.effG (by rw [hn]; rfl) (by rw [hn]; exact hk)

theorem GD.explore {C : Ctx} {h0 h : GH} {ops : Array Oper} {k : List Item} {ks : List Nat} (hns : Region.noSelect ops = true) : ∀ (m : Nat) {d : DCfg}, (∀ x ∈ exploreL C.P C.n ops ks m d, GD C h0 h ops k ks x) → GD C h0 h ops k ks d
  | 0, d, H => H d (by simp [exploreL])
  | m + 1, d, H => by
    refine GD.run hns 100 ?_
    rw [exploreL] at H
    generalize runD C.P C.n ops ks 100 d = d1 at H
    split at H
    · exact H d1 (by simp)
    · rename_i hp
      split at H
      · rename_i x xs hx
        obtain ⟨h1, h2⟩ := nextsOf_ok _ _ hx
        refine GD.every (Region.ready .any ops d1.listed) ?_ fun i hi => ?_
        · unfold readyIs
          cases hf : d1.fuel with
          | zero => rw [hf] at hp; simp [isPos] at hp
          | succ f =>
            have : Region.ready .any ops d1.listed ≠ [] := by intro e; rw [e] at h1; simp at h1
            simp [this]
        · obtain ⟨y, h3, h4⟩ := h2 i hi
          exact GDop.next h4 (GD.explore hns m fun z hz => H z (by simp only [List.mem_flatMap]; exact ⟨y, h3, hz⟩))
      · exact H d1 (by simp)

def restrD (ts bks : List Nat) (nb : Nat) (os : List Nat) (d : DCfg) : DCfg := ⟨d.fuel, d.listed, restrS ts bks nb os d.s⟩

theorem liveRows {s : S} {bks : List Nat} {x : Nat} {b : Box} (hb : bx x s.boxes = some b) (hx : x ∈ bks) : ∃ b, bx x (boxRows s bks) = some b := by
  induction bks with
  | nil => simp at hx
  | cons y l ih =>
    simp only [boxRows]
    simp only [List.mem_cons] at hx
    cases hy : bx y s.boxes with
    | none =>
      simp only
      rcases hx with rfl | hx
      · rw [hb] at hy; cases hy
      · exact ih hx
    | some c =>
      simp only [bx_cons]
      by_cases e : y = x
      · exact ⟨c, by rw [if_pos e]⟩
      · rw [if_neg e]; exact ih (hx.resolve_left fun e' => e e'.symm)

def allMem (ks bks : List Nat) : Bool := ks.all fun k => memN k bks

theorem GD.restr {C : Ctx} {h0 h : GH} {ops : Array Oper} {k : List Item} {ks : List Nat} {d : DCfg} (ts bks : List Nat) (nb : Nat) (os : List Nat) (hok : okS (restrS ts bks nb os d.s) = true) (hks : allMem ks bks = true) (hk : GD C h0 h ops k ks (restrD ts bks nb os d)) : GD C h0 h ops k ks d := by
  intro β w tmps L hS hL hlive hle
  exact hk β w tmps L (hS.restr hok) hL (fun x hx => by
    obtain ⟨b, hb⟩ := hlive x hx
    exact liveRows hb (memN_iff.1 (List.all_eq_true.1 hks x hx))) hle

/-- **All orders of a region lead to the same.** -/
theorem GD.auto {C : Ctx} {h0 h : GH} {ops : Array Oper} {k : List Item} {ks : List Nat} {d d' : DCfg} (hns : Region.noSelect ops = true) (m cnt : Nat) (ts bks : List Nat) (nb : Nat) (os : List Nat) (he : (exploreL C.P C.n ops ks m d).map (restrD ts bks nb os) = List.replicate cnt d') (hok : okS d'.s = true) (hks : allMem ks bks = true)
    (hk : GD C h0 h ops k ks d') : GD C h0 h ops k ks d := by
  refine GD.explore hns m fun x hx => ?_
  have h1 : restrD ts bks nb os x ∈ List.replicate cnt d' := by rw [← he]; exact List.mem_map_of_mem hx
  have h2 := List.eq_of_mem_replicate h1
  refine GD.restr ts bks nb os ?_ hks (by rw [h2]; exact hk)
  have := congrArg DCfg.s h2
  simp only [restrD] at this
  rw [this]; exact hok

/-- Each slot that is told of, the greatest first. -/
def insDesc (t : Nat) : List Nat → List Nat
  | [] => [t]
  | x :: l => match Nat.beq x t with
    | true => x :: l
    | false => match Nat.blt x t with
      | true => t :: x :: l
      | false => x :: insDesc t l

def slotKeys : List (Nat × SV) → List Nat
  | [] => []
  | (t, _) :: l => insDesc t (slotKeys l)

def boxKeys : List (Nat × Box) → List Nat
  | [] => []
  | (t, _) :: l => insDesc t (boxKeys l)

def ownKeys : List (Nat × Own) → List Nat
  | [] => []
  | (t, _) :: l => insDesc t (ownKeys l)

def normS (s : S) : S := restrS (slotKeys s.slots) (boxKeys s.boxes) s.nb (ownKeys s.owns) s
def normD (d : DCfg) : DCfg := ⟨d.fuel, d.listed, normS d.s⟩

theorem mem_insDesc {t x : Nat} : ∀ {l : List Nat}, x = t ∨ x ∈ l → x ∈ insDesc t l := by
  intro l
  induction l with
  | nil => intro h; simpa [insDesc] using h
  | cons y l ih =>
    intro h
    simp only [insDesc]
    split
    · rename_i e
      have := Nat.eq_of_beq_eq_true e
      rcases h with rfl | h
      · simp [this]
      · exact h
    · split
      · simp only [List.mem_cons] at h ⊢; exact h
      · simp only [List.mem_cons] at h ⊢
        rcases h with h | h | h
        · exact .inr (ih (.inl h))
        · exact .inl h
        · exact .inr (ih (.inr h))

theorem mem_boxKeys {x : Nat} {b : Box} : ∀ {l : List (Nat × Box)}, bx x l = some b → x ∈ boxKeys l := by
  intro l
  induction l with
  | nil => intro h; simp [bx] at h
  | cons p l ih =>
    obtain ⟨y, c⟩ := p
    intro h
    rw [bx_cons] at h
    simp only [boxKeys]
    split at h
    · rename_i e; exact mem_insDesc (.inl e.symm)
    · exact mem_insDesc (.inr (ih h))

theorem GD.norm {C : Ctx} {h0 h : GH} {ops : Array Oper} {k : List Item} {ks : List Nat} {d : DCfg} (hok : okS (normS d.s) = true) (hk : GD C h0 h ops k ks (normD d)) : GD C h0 h ops k ks d := by
  intro β w tmps L hS hL hlive hle
  exact hk β w tmps L (hS.restr hok) hL (fun x hx => by
    obtain ⟨b, hb⟩ := hlive x hx
    exact liveRows hb (mem_boxKeys hb)) hle

def okDs : List DCfg → Bool
  | [] => true
  | d :: l => okS (normS d.s) && okDs l

def autoD (P : Program) (n : Nat) (ops : Array Oper) (ks : List Nat) (m : Nat) (d : DCfg) : DCfg := normD ((exploreL P n ops ks m d).headD d)

/-- **All orders of a region lead to the same**, which is told in full. -/
theorem GD.autoN {C : Ctx} {h0 h : GH} {ops : Array Oper} {k : List Item} {ks : List Nat} {d : DCfg} (hns : Region.noSelect ops = true) (m cnt : Nat) (he : (exploreL C.P C.n ops ks m d).map normD = List.replicate cnt (autoD C.P C.n ops ks m d)) (hok : okDs (exploreL C.P C.n ops ks m d) = true)
    (hk : GD C h0 h ops k ks (autoD C.P C.n ops ks m d)) : GD C h0 h ops k ks d := by
  refine GD.explore hns m fun x hx => ?_
  have h1 : normD x ∈ List.replicate cnt (autoD C.P C.n ops ks m d) := by rw [← he]; exact List.mem_map_of_mem hx
  refine GD.norm ?_ (by rw [List.eq_of_mem_replicate h1]; exact hk)
  clear he hk h1
  generalize exploreL C.P C.n ops ks m d = l at hx hok
  induction l with
  | nil => simp at hx
  | cons y l ih =>
    simp only [okDs, Bool.and_eq_true] at hok
    simp only [List.mem_cons] at hx
    rcases hx with rfl | hx
    · exact hok.1
    · exact ih hx hok.2
end Go.Proofs.Ytkjahaoobdbffaa

/- The base of this seat's proofs, sixteenth part: the same, with operations that are known by their meaning. -/
namespace Go.Proofs.Ytkjahaoobdbffaa
open Go Go.RowKit

/-- An operation, what it means, and what it yields. -/
structure SemRow where
  i : Nat
  view : SemView
  u : Value
  sv : SV1

structure SemRow.Ok (P : Program) (n : Nat) (h0 : GH) (r : SemRow) : Prop where
  ok : gOk n r.view.dst r.view.guard = true
  sv : ∀ N β, SV1Ok N β r.sv r.u
  run : ∀ w, Sub h0 w → r.view.m.run P w = .ok (.value r.u) w

def semTry (ops : Array Oper) (d : DCfg) : List SemRow → Option SemRow
  | [] => none
  | r :: l => match takeAtD ops d r.i with
    | some _ => some r
    | none => semTry ops d l

abbrev Obl := Option SemView × Option SemView

def rnS (P : Program) (n : Nat) (ops : Array Oper) (ks : List Nat) (tb : List SemRow) : Nat → DCfg → DCfg × List Obl
  | 0, d => (d, [])
  | m + 1, d => match semTry ops (runD P n ops ks 100 d) tb with
    | some r => match rnS P n ops ks tb m (afterI ops (runD P n ops ks 100 d) r.i (gdOf r.view.guard r.sv)) with
      | (d2, o) => (d2, (takeAtD ops (runD P n ops ks 100 d) r.i, some r.view) :: o)
    | none => (runD P n ops ks 100 d, [])

def explS (P : Program) (n : Nat) (ops : Array Oper) (ks : List Nat) (tb : List SemRow) : Nat → DCfg → List DCfg × List Obl
  | 0, d => ([d], [])
  | m + 1, d =>
    match rnS P n ops ks tb 20 d with
    | (d1, o) => match isPos d1.fuel with
      | false => ([d1], o)
      | true => match nextsOf P n ops ks d1 (Region.ready .any ops d1.listed) with
        | some (x :: xs) => (((x :: xs).map (explS P n ops ks tb m)).flatMap (·.1), o ++ ((x :: xs).map (explS P n ops ks tb m)).flatMap (·.2))
        | _ => ([d1], o)

def oblsOk (l : List Obl) : Prop := ∀ p ∈ l, p.1 = p.2

theorem semTry_mem {ops : Array Oper} {d : DCfg} {r : SemRow} : ∀ {l : List SemRow}, semTry ops d l = some r → r ∈ l := by
  intro l
  induction l with
  | nil => intro h; simp [semTry] at h
  | cons x l ih =>
    intro h
    simp only [semTry] at h
    split at h
    · simp only [Option.some.injEq] at h; simp [h]
    · simp [ih h]

theorem GD.runS {C : Ctx} {h0 h : GH} {ops : Array Oper} {k : List Item} {ks : List Nat} {tb : List SemRow} (hns : Region.noSelect ops = true) (htb : ∀ r ∈ tb, r.Ok C.P C.n h0) : ∀ (m : Nat) {d : DCfg}, oblsOk (rnS C.P C.n ops ks tb m d).2 → GD C h0 h ops k ks (rnS C.P C.n ops ks tb m d).1 → GD C h0 h ops k ks d
  | 0, _, _, hk => hk
  | m + 1, d, ho, hk => by
    refine GD.run hns 100 ?_
    unfold rnS at ho hk
    generalize runD C.P C.n ops ks 100 d = d1 at ho hk
    split at ho
    · rename_i r hr
      simp only [hr] at hk
      have h1 := htb r (semTry_mem hr)
      have hob : takeAtD ops d1 r.i = some r.view := ho (takeAtD ops d1 r.i, some r.view) (by simp)
      obtain ⟨i, ⟨m', dst, g⟩, u, sv⟩ := r
      refine GD.sem i hob h1.ok u sv h1.sv (says_of h1.run) (GD.runS hns htb m (fun p hp => ho p (by simp [hp])) hk)
    · rename_i hr
      simp only [hr] at hk
      exact hk

theorem GD.exploreS {C : Ctx} {h0 h : GH} {ops : Array Oper} {k : List Item} {ks : List Nat} {tb : List SemRow} (hns : Region.noSelect ops = true) (htb : ∀ r ∈ tb, r.Ok C.P C.n h0) : ∀ (m : Nat) {d : DCfg}, oblsOk (explS C.P C.n ops ks tb m d).2 → (∀ x ∈ (explS C.P C.n ops ks tb m d).1, GD C h0 h ops k ks x) → GD C h0 h ops k ks d
  | 0, d, _, H => H d (by simp [explS])
  | m + 1, d, ho, H => by
    rw [explS] at H ho
    generalize hrs : rnS C.P C.n ops ks tb 20 d = rs at H ho
    obtain ⟨d1, o⟩ := rs
    have key : oblsOk o → GD C h0 h ops k ks d1 → GD C h0 h ops k ks d := fun h1 h2 => GD.runS hns htb 20 (by rw [hrs]; exact h1) (by rw [hrs]; exact h2)
    simp only at H ho
    split at H
    · rename_i hp
      simp only [hp] at ho
      exact key ho (H d1 (by simp))
    · rename_i hp
      simp only [hp] at ho
      split at H
      · rename_i x xs hx
        simp only [hx] at ho
        obtain ⟨h1, h2⟩ := nextsOf_ok _ _ hx
        refine key (fun p hp' => ho p (by simp [hp'])) (GD.every (Region.ready .any ops d1.listed) ?_ fun i hi => ?_)
        · unfold readyIs
          cases hf : d1.fuel with
          | zero => rw [hf] at hp; simp [isPos] at hp
          | succ f =>
            have : Region.ready .any ops d1.listed ≠ [] := by intro e; rw [e] at h1; simp at h1
            simp [this]
        · obtain ⟨y, h3, h4⟩ := h2 i hi
          refine GDop.next h4 (GD.exploreS hns htb m (fun p hp' => ho p ?_) fun z hz => H z ?_)
          · exact List.mem_append_right _ (List.mem_flatMap.2 ⟨_, List.mem_map.2 ⟨y, h3, rfl⟩, hp'⟩)
          · exact List.mem_flatMap.2 ⟨_, List.mem_map.2 ⟨y, h3, rfl⟩, hz⟩
      · rename_i hx
        have ho' : oblsOk o := by
          split at ho
          · rename_i x xs hx'
            exact absurd hx' (by intro e; exact hx x xs e)
          · exact ho
        exact key ho' (H d1 (by simp))

def atS (P : Program) (n : Nat) (ops : Array Oper) (ks : List Nat) (tb : List SemRow) (m : Nat) (d : DCfg) : DCfg := normD ((explS P n ops ks tb m d).1.headD d)

theorem oblsOk_of {l : List Obl} (h : l.map (·.1) = l.map (·.2)) : oblsOk l := by
  induction l with
  | nil => intro p hp; simp at hp
  | cons a l ih =>
    simp only [List.map_cons, List.cons.injEq] at h
    intro p hp
    simp only [List.mem_cons] at hp
    rcases hp with rfl | hp
    · exact h.1
    · exact ih h.2 p hp

/-- **All orders of a region lead to the same**, which is told in full. -/
theorem GD.autoS {C : Ctx} {h0 h : GH} {ops : Array Oper} {k : List Item} {ks : List Nat} {d : DCfg} (tb : List SemRow) (hns : Region.noSelect ops = true) (htb : ∀ r ∈ tb, r.Ok C.P C.n h0) (m cnt : Nat) (ho : (explS C.P C.n ops ks tb m d).2.map (·.1) = (explS C.P C.n ops ks tb m d).2.map (·.2))
    (he : (explS C.P C.n ops ks tb m d).1.map normD = List.replicate cnt (atS C.P C.n ops ks tb m d)) (hok : okDs (explS C.P C.n ops ks tb m d).1 = true)
    (hk : GD C h0 h ops k ks (atS C.P C.n ops ks tb m d)) : GD C h0 h ops k ks d := by
  refine GD.exploreS hns htb m (oblsOk_of ho) fun x hx => ?_
  have h1 : normD x ∈ List.replicate cnt (atS C.P C.n ops ks tb m d) := by rw [← he]; exact List.mem_map_of_mem hx
  refine GD.norm ?_ (by rw [List.eq_of_mem_replicate h1]; exact hk)
  clear he hk h1 ho
  generalize (explS C.P C.n ops ks tb m d).1 = l at hx hok
  induction l with
  | nil => simp at hx
  | cons y l ih =>
    simp only [okDs, Bool.and_eq_true] at hok
    simp only [List.mem_cons] at hx
    rcases hx with rfl | hx
    · exact hok.1
    · exact ih hx hok.2

/-- The same, to the region's end, what is known there being told in full. -/
theorem GD.finS {C : Ctx} {h0 h : GH} {ops : Array Oper} {k : List Item} {ks : List Nat} {d : DCfg} (tb : List SemRow) (hns : Region.noSelect ops = true) (htb : ∀ r ∈ tb, r.Ok C.P C.n h0) (m cnt : Nat) (ts bks : List Nat) (nb : Nat) (os : List Nat) (s' : S) (ho : (explS C.P C.n ops ks tb m d).2.map (·.1) = (explS C.P C.n ops ks tb m d).2.map (·.2))
    (he : (explS C.P C.n ops ks tb m d).1.map (fun x => (doneD ops x, restrS ts bks nb os x.s)) = List.replicate cnt (true, s')) (hok : okS s' = true) (hk : G C h ⟨k, s'⟩) : GD C h0 h ops k ks d := by
  refine GD.exploreS hns htb m (oblsOk_of ho) fun x hx => ?_
  have h1 : (doneD ops x, restrS ts bks nb os x.s) ∈ List.replicate cnt (true, s') := by rw [← he]; exact List.mem_map_of_mem (f := fun x => (doneD ops x, restrS ts bks nb os x.s)) hx
  have h2 := List.eq_of_mem_replicate h1
  simp only [Prod.mk.injEq] at h2
  exact GD.fin h2.1 (G.weaken ts bks nb os h2.2 hok hk)

theorem semRows_nil {P : Program} {n : Nat} {h0 : GH} : ∀ r ∈ ([] : List SemRow), r.Ok P n h0 := fun r hr => by simp at hr
theorem semRows_cons {P : Program} {n : Nat} {h0 : GH} {r : SemRow} {l : List SemRow} (h : r.Ok P n h0) (hl : ∀ x ∈ l, x.Ok P n h0) : ∀ x ∈ r :: l, x.Ok P n h0 := fun x hx => by
  simp only [List.mem_cons] at hx
  rcases hx with rfl | hx
  · exact h
  · exact hl x hx
end Go.Proofs.Ytkjahaoobdbffaa

/- The base of this seat's proofs, seventeenth part: a block that nobody writes any more is told apart. -/
namespace Go.Proofs.Ytkjahaoobdbffaa
open Go Go.RowKit

def dropBox (k : Nat) : List (Nat × Box) → List (Nat × Box)
  | [] => []
  | (x, o) :: l => if Nat.beq x k then dropBox k l else (x, o) :: dropBox k l

theorem bx_drop {k l : Nat} {o : Box} : ∀ {os : List (Nat × Box)}, bx l (dropBox k os) = some o → bx l os = some o ∧ l ≠ k := by
  intro os
  induction os with
  | nil => intro h; simp [dropBox, bx] at h
  | cons p os ih =>
    obtain ⟨x, q⟩ := p
    intro h
    simp only [dropBox] at h
    by_cases hx : Nat.beq x k = true
    · rw [if_pos hx] at h
      have := ih h
      rw [bx_cons, if_neg (fun e => this.2 (by rw [← e]; exact Nat.eq_of_beq_eq_true hx))]
      exact this
    · rw [if_neg hx, bx_cons] at h
      rw [bx_cons]
      split
      · rename_i e
        rw [if_pos e] at h
        exact ⟨h, fun e' => hx (nbeq_iff.2 (e.trans e'))⟩
      · rename_i e
        rw [if_neg e] at h
        exact ih h

theorem bx_drop_of {k l : Nat} {o : Box} (hne : l ≠ k) : ∀ {os : List (Nat × Box)}, bx l os = some o → bx l (dropBox k os) = some o := by
  intro os
  induction os with
  | nil => intro h; simp [bx] at h
  | cons p os ih =>
    obtain ⟨x, q⟩ := p
    intro h
    rw [bx_cons] at h
    simp only [dropBox]
    by_cases hx : Nat.beq x k = true
    · rw [if_pos hx]
      have := Nat.eq_of_beq_eq_true hx
      rw [if_neg (fun e => hne (by rw [← e, this]))] at h
      exact ih h
    · rw [if_neg hx, bx_cons]
      split
      · rename_i e; rw [if_pos e] at h; exact h
      · rename_i e; rw [if_neg e] at h; exact ih h

/-- The same ghost memory with one block more. -/
def addG (h : GH) (b : Nat) (o : Obj) : GH := fun x => if x = b then some o else h x

theorem Sim.freezeBox {hE : GH} {w0 : World} {inc : List Nat} {n : Nat} {s : S} {h : GH} {β : Nat → Nat} {w : World} {tmps : Array Value} (hS : Sim hE w0 inc n s h β w tmps) {k : Nat} {bi : Option Nat} {T : TypeId} {cs : List Cell} {vs : List Value} (hb : bx k s.boxes = some ⟨bi, .lit T cs⟩) (hv : cellVals cs = some vs) :
    Sim hE w0 inc n { s with boxes := dropBox k s.boxes } (addG h (β k) (.cells vs.toArray T (0, 0))) β w tmps := by
  have hcell : w.heap[β k]? = some (.cells vs.toArray T (0, 0)) := by
    obtain ⟨arr, h1, h2⟩ := hS.box k _ hb
    rw [h1, ← cellVals_ok hv h2]
  have hno := hS.gno k _ hb
  have hfr := hS.fresh k _ hb
  refine ⟨hS.size, hS.slots, fun j x hj => hS.box j x (bx_drop hj).1, fun j l x y hj hl => hS.inj j l x y (bx_drop hj).1 (bx_drop hl).1, fun j x hj => hS.keys j x (bx_drop hj).1, fun j x hj => hS.fresh j x (bx_drop hj).1, fun b o hb' => ?_, fun j x hj => ?_, hS.frame, fun b o hb' => ?_, fun b hlt hn => ?_, hS.own, fun l o b ho hb' => ?_, hS.ownI⟩
  · unfold addG at hb'
    split at hb'
    · rename_i e; subst e; simp only [Option.some.injEq] at hb'; subst hb'; exact hcell
    · exact hS.ghost b o hb'
  · unfold addG
    rw [if_neg (hS.inj j k x _ (bx_drop hj).1 hb (bx_drop hj).2)]
    exact hS.gno j x (bx_drop hj).1
  · unfold addG
    have h1 := hS.gle b o hb'
    rw [if_neg (fun e => by rw [e, hno] at h1; cases h1)]
    exact h1
  · unfold addG
    have hne : b ≠ β k := by
      rintro rfl
      cases bi with
      | none => simp only at hfr; omega
      | some m =>
        simp only at hfr
        rw [hfr.1] at hn hlt
        rcases hfr.2 with h1 | h1
        · exact hn h1
        · omega
    rw [if_neg hne]
    exact hS.gold b hlt hn
  · obtain ⟨h1, h2, h3⟩ := hS.ownB l o b ho hb'
    refine ⟨?_, fun j x hj => h2 j x (bx_drop hj).1, h3⟩
    unfold addG
    rw [if_neg (fun e => h2 k _ hb e.symm)]
    exact h1

theorem GLe.addG {hE : GH} {w0 : World} {inc : List Nat} {n : Nat} {s : S} {h : GH} {β : Nat → Nat} {w : World} {tmps : Array Value} (hS : Sim hE w0 inc n s h β w tmps) {k : Nat} {b : Box} (hb : bx k s.boxes = some b) (o : Obj) : GLe h (addG h (β k) o) := by
  intro x y hx
  unfold Ytkjahaoobdbffaa.addG
  rw [if_neg (fun e => by rw [e, hS.gno k b hb] at hx; cases hx)]
  exact hx

/-- A slot that holds the address of a known block, or a slice of it, is told by a value. -/
theorem Sim.bslVal {hE : GH} {w0 : World} {inc : List Nat} {n : Nat} {s : S} {h : GH} {β : Nat → Nat} {w : World} {tmps : Array Value} (hS : Sim hE w0 inc n s h β w tmps) {t k off m c : Nat} (hl : lk t s.slots = .one (.atom (.bsl k off m c))) :
    Sim hE w0 inc n { s with slots := (t, .one (.atom (.sl (.slice (some ⟨β k, off, none⟩) m c) m))) :: s.slots } h β w tmps := by
  refine ⟨hS.size, fun x => ?_, hS.box, hS.inj, hS.keys, hS.fresh, hS.ghost, hS.gno, hS.frame, hS.gle, hS.gold, hS.own, hS.ownB, hS.ownI⟩
  show SVOk s.nb β tmps (lk x ((t, .one (.atom (.sl (.slice (some ⟨β k, off, none⟩) m c) m))) :: s.slots)) _
  rw [lk_put]
  by_cases e : t = x
  · subst e
    rw [if_pos rfl]
    have h1 := hS.slots t
    rw [hl] at h1
    have h3 : tmps.getD t undef = .slice (some ⟨β k, off, none⟩) m c := h1.1
    exact ⟨h3, _, _, rfl⟩
  · rw [if_neg e]
    have hs := hS.slots x
    cases hx : lk x s.slots with
    | one v => rw [hx] at hs; exact hs
    | tup v => rw [hx] at hs; exact hs
    | gd g b v =>
      rw [hx] at hs
      simp only
      split
      · exact trivial
      · exact hs

/-- **A literal slice that nobody writes any more**: slot t holds it. -/
theorem G.freezeBox {C : Ctx} {h : GH} {c : Cfg} (k t : Nat) {off m cp : Nat} {bi : Option Nat} {T : TypeId} {cs : List Cell} {vs : List Value} (hb : bx k c.s.boxes = some ⟨bi, .lit T cs⟩) (hv : cellVals cs = some vs) (hl : lk t c.s.slots = .one (.atom (.bsl k off m cp)))
    (hk : ∀ b h', GLe h h' → h' b = some (.cells vs.toArray T (0, 0)) → G C h' ⟨c.todo, { c.s with slots := (t, .one (.atom (.sl (.slice (some ⟨b, off, none⟩) m cp) m))) :: c.s.slots, boxes := dropBox k c.s.boxes }⟩) : G C h c := by
  intro β w tmps hS
  exact hk (β k) _ (GLe.addG hS hb _) (by simp [addG]) β w tmps ((hS.freezeBox hb hv).bslVal (t := t) hl)

theorem GD.freezeBox {C : Ctx} {h0 h : GH} {ops : Array Oper} {kk : List Item} {ks : List Nat} {d : DCfg} (k t : Nat) {off m cp : Nat} {bi : Option Nat} {T : TypeId} {cs : List Cell} {vs : List Value} (hb : bx k d.s.boxes = some ⟨bi, .lit T cs⟩) (hv : cellVals cs = some vs) (hl : lk t d.s.slots = .one (.atom (.bsl k off m cp))) (hks : memN k ks = false)
    (hk : ∀ b h', GLe h h' → h' b = some (.cells vs.toArray T (0, 0)) → GD C h0 h' ops kk ks ⟨d.fuel, d.listed, { d.s with slots := (t, .one (.atom (.sl (.slice (some ⟨b, off, none⟩) m cp) m))) :: d.s.slots, boxes := dropBox k d.s.boxes }⟩) : GD C h0 h ops kk ks d := by
  intro β w tmps L hS hL hlive hle
  have hle' := GLe.addG hS hb (.cells vs.toArray T (0, 0))
  exact hk (β k) _ hle' (by simp [addG]) β w tmps L ((hS.freezeBox hb hv).bslVal (t := t) hl) hL (fun x hx => by
    obtain ⟨b, hb'⟩ := hlive x hx
    exact ⟨b, bx_drop_of (fun e => by rw [e] at hx; rw [memN_iff.2 hx] at hks; cases hks) hb'⟩) (hle.trans hle')

theorem Mend.of_grow {h h' : GH} {w w' : World} (hg : Grow h w h' w') : Mend h w ⟨[], []⟩ h' w' ⟨[], []⟩ :=
  ⟨⟨fun k x hk => by simp at hk, fun k l x y hk => by simp at hk, fun k o hk => by simp at hk, fun k o b hk => by simp at hk, fun k l o p b hk => by simp at hk⟩, rfl, Frm.of_below hg.below [], hg.le, fun b hb _ => hg.old b hb, hg.sub, fun k o b hk => by simp at hk⟩
end Go.Proofs.Ytkjahaoobdbffaa

/- The base of this seat's proofs, eighteenth part: an operation known by its meaning that comes up now, in a region of open order. -/
namespace Go.Proofs.Ytkjahaoobdbffaa
open Go Go.RowKit

def semAtD (ops : Array Oper) (d : DCfg) (i : Nat) : Option SemView := match ops[i]? with
  | some o => semOf d.s ops o
  | none => none

theorem GDop.sem {C : Ctx} {h0 h : GH} {ops : Array Oper} {k : List Item} {ks : List Nat} {d : DCfg} {i : Nat} {m : Sem Next} {dst : Option Nat} {g : Option (Nat × Bool)} (hv : semAtD ops d i = some ⟨m, dst, g⟩) (hok : gOk C.n dst g = true) (u : Value) (sv : SV1) (hsv : ∀ N β, SV1Ok N β sv u)
    (hrun : guardSays d.s g (∀ w, Sub h w → m.run C.P w = .ok (.value u) w)) (hk : GD C h0 h ops k ks (afterN ops d i d.s (gdOf g sv))) : GDop C h0 h ops k ks d i := by
  intro β w tmps L hS hL hlive hle
  obtain ⟨fuel, listed, s⟩ := d
  unfold semAtD at hv
  simp only at hv hS hlive hrun
  split at hv
  · rename_i o hi
    obtain ⟨hd, hdo, hcase⟩ := semOf_ok (P := C.P) hS hv hok u sv hsv (Sub h) hrun
    simp only [afterN, nextD, hi, Option.bind_some] at hk
    rw [hd] at hdo
    have hst : Stays L h0 w := by rw [hL]; exact Stays.of_sim hS hle ks
    have hl : ∀ x ∈ ks, ∃ b, bx x (putS s o.dst (gdOf g sv)).boxes = some b := fun x hx => by obtain ⟨b, hb⟩ := hlive x hx; exact ⟨b, by simp only [putS_boxes]; exact hb⟩
    rcases hcase with ⟨⟨hwt, hr⟩, hu⟩ | ⟨hwt, hu⟩
    · refine wpOp_value hi hwt (hr w hS.sub) ⟨hst, ?_⟩
      rw [act_put]
      exact hk β w _ L (hS.putD hdo hu) hL hl hle
    · refine wpOp_unwanted hi hwt ⟨hst, ?_⟩
      rw [act_put]
      exact hk β w _ L (hS.putD hdo hu) hL hl hle
  · simp at hv

section GD
variable {α : Type} {C : Ctx} {h0 h : GH} {ops : Array Oper} {k : List Item} {ks : List Nat} {dd : DCfg} {sz : Nat} {R : List Value → α → Prop} {v : Value} {l : List α} {T E : TypeId} {d1 : Option Nat} {g : Option (Nat × Bool)}

theorem GDop.idx {j : Nat} (hs : SlR h sz R v l) (hu : C.P.underlying T = some (.slice E)) (hz : sizeP C.P E = some sz) {i : Nat} (hi : i < l.length)
    (h1 : semAtD ops dd j = some ⟨valS (Instr.indexAt T v (.int .i64 i)), d1, g⟩) (hok : gOk C.n d1 g = true) (hk : GD C h0 h ops k ks (afterN ops dd j dd.s (gdOf g (addrS v sz i)))) : GDop C h0 h ops k ks dd j :=
  GDop.sem h1 hok _ _ (addrS_ok v sz i) (says_of fun w _ => run_valS (hs.index hu hz hi w)) hk

theorem GDop.elEnt {l : List Ent} {j : Nat} (hs : EntsR h v l) (hz : sizeP C.P E = some 9) (hd : ∃ d, C.P.underlying E = some d ∧ isAggD d = true) {i : Nat} {e : Ent} (hx : l[i]? = some e)
    (h1 : semAtD ops dd j = some ⟨valS (Instr.loadAt E (.pointer (some (elemAddr v 9 i)))), d1, g⟩) (hok : gOk C.n d1 g = true)
    (hk : ∀ p d, SlR h 5 RulR p e.put → SlR h 1 IntR d e.drop → GD C h0 h ops k ks (afterN ops dd j dd.s (gdOf g (.agg (entC e p d))))) : GDop C h0 h ops k ks dd j := by
  obtain ⟨d, hd, hag⟩ := hd
  obtain ⟨arr, hR, hrun⟩ := SlR.loadA hs hz hd hag hx
  obtain ⟨p, d, rfl, h2, h3⟩ := EntR.arr hR
  exact GDop.sem h1 hok _ _ (entC_ok h2 h3) (says_of fun w hw => run_valS (hrun w hw)) (hk p d h2 h3)
end GD
end Go.Proofs.Ytkjahaoobdbffaa

/- The base of this seat's proofs, nineteenth part: maps and other objects that are told as a whole. -/
namespace Go.Proofs.Ytkjahaoobdbffaa
open Go Go.RowKit

def setBlk (w : World) (b : Nat) (o : Obj) : World := { w with heap := w.heap.setIfInBounds b o }

theorem setBlk_same {w : World} {b : Nat} {o o0 : Obj} (hb : w.heap[b]? = some o0) : (setBlk w b o).heap[b]? = some o := by
  have := (Array.getElem?_eq_some_iff.1 hb).1
  simp [setBlk, this]
theorem setBlk_other {w : World} {b x : Nat} {o : Obj} (hne : x ≠ b) : (setBlk w b o).heap[x]? = w.heap[x]? := by
  simp [setBlk, Array.getElem?_setIfInBounds_ne (Ne.symm hne)]

section sim
variable {hE : GH} {w0 : World} {inc : List Nat} {n : Nat} {s : S} {h : GH} {β : Nat → Nat} {w : World} {tmps : Array Value}

theorem Sim.setObj (hS : Sim hE w0 inc n s h β w tmps) {k : Nat} {bi : Option Nat} {o o' : Obj} (hb : bx k s.boxes = some ⟨bi, .obj o⟩) :
    Sim hE w0 inc n { s with boxes := (k, ⟨bi, .obj o'⟩) :: s.boxes } h β (setBlk w (β k) o') tmps := by
  have hh : w.heap[β k]? = some o := hS.box _ _ hb
  have hfr := hS.fresh k _ hb
  have hkg := hS.gno k _ hb
  have hold : ∀ x, x ≠ β k → (setBlk w (β k) o').heap[x]? = w.heap[x]? := fun x hx => setBlk_other hx
  refine hS.after (inc' := [β k]) rfl rfl ⟨rfl, rfl, rfl, by simp [setBlk], fun b _ hn => hold b (by simpa using hn)⟩ (fun b hbm => ?_) (fun j y hy => ?_) (fun l p hl => ?_) hS.ownI (GLe.refl h) (fun _ _ _ => rfl) (fun b o hbo => ?_)
  · simp only [List.mem_singleton] at hbm; subst hbm
    refine ⟨hkg, ?_⟩
    cases bi with
    | none => exact .inr hfr
    | some m => simp only at hfr; rw [hfr.1]; exact hfr.2
  · rw [bx_cons] at hy
    split at hy
    · rename_i e; subst e
      simp only [Option.some.injEq] at hy; subst hy
      exact ⟨_, hb, rfl, setBlk_same hh, hkg⟩
    · rename_i e
      exact ⟨y, hy, rfl, (hS.box j y hy).of_block (hold _ (hS.inj j k y _ hy hb fun e' => e e'.symm)), hS.gno j y hy⟩
  · refine ⟨ownsRow_of_block (hS.own l p hl) fun g hg => hold g fun e => (hS.ownB l p g hl hg).2.1 k _ hb e.symm, fun g hg => hS.ownB l p g hl hg⟩
  · have hne : b ≠ β k := fun e => by rw [e, hkg] at hbo; cases hbo
    rw [hold b hne]; exact hS.ghost b o hbo

/-- Another ghost memory, less told of. -/
theorem Sim.newObj (hS : Sim hE w0 inc n s h β w tmps) (o : Obj) :
    Sim hE w0 inc n { s with boxes := (s.nb, ⟨some w.heap.size, .obj o⟩) :: s.boxes, nb := s.nb + 1 } h (fun k => if k = s.nb then w.heap.size else β k) (w.alloc o) tmps := by
  have hb : ∀ k, k < s.nb → (fun k => if k = s.nb then w.heap.size else β k) k = β k := fun k hk => by simp [Nat.ne_of_lt hk]
  have hold : ∀ b, b < w.heap.size → (w.alloc o).heap[b]? = w.heap[b]? := fun b hb => Below.heap_alloc w _ b hb
  have hnew : (w.alloc o).heap[w.heap.size]? = some o := (MapKept.heap_alloc w _).1
  have hlt : ∀ k b, bx k s.boxes = some b → β k < w.heap.size := fun k b hk => (hS.box k b hk).lt
  refine ⟨hS.size, fun t => (hS.slots t).rename (Nat.le_succ _) hb, ?_, ?_, ?_, ?_, ?_, ?_, ?_, hS.gle, hS.gold, ?_, ?_, hS.ownI⟩
  · intro k b hk
    simp only [bx_cons] at hk
    split at hk
    · rename_i e; subst e
      simp only [Option.some.injEq] at hk; subst hk
      simp only [if_true]
      exact hnew
    · have hne : k ≠ s.nb := fun e => by rename_i h; exact h e.symm
      simp only [if_neg hne]
      exact ((hS.box k b hk).rename (Nat.le_succ _) hb).of_block (hold _ (hlt k b hk))
  · intro k l b c hk hl hkl
    simp only [bx_cons] at hk hl
    by_cases ek : s.nb = k
    · subst ek
      have hne : l ≠ s.nb := fun e => hkl e.symm
      rw [if_neg (fun e => hkl e)] at hl
      simp only [if_true, if_neg hne]
      have := hlt l c hl
      omega
    · rw [if_neg ek] at hk
      have hk' : k ≠ s.nb := fun e => ek e.symm
      by_cases el : s.nb = l
      · subst el
        simp only [if_true, if_neg hk']
        have := hlt k b hk
        omega
      · rw [if_neg el] at hl
        have hl' : l ≠ s.nb := fun e => el e.symm
        simp only [if_neg hk', if_neg hl']
        exact hS.inj k l b c hk hl hkl
  · intro k b hk
    simp only [bx_cons] at hk ⊢
    split at hk
    · rename_i e; omega
    · have := hS.keys k b hk; omega
  · intro k b hk
    simp only [bx_cons] at hk
    split at hk
    · rename_i e; subst e
      simp only [Option.some.injEq] at hk; subst hk
      simp only [if_true]
      exact ⟨trivial, .inr hS.frame.size⟩
    · have hne : k ≠ s.nb := fun e => by rename_i h; exact h e.symm
      simp only [if_neg hne]
      exact hS.fresh k b hk
  · intro b o ho
    have := hS.ghost b o ho
    rw [hold b (Array.getElem?_eq_some_iff.1 this).1]; exact this
  · intro k b hk
    simp only [bx_cons] at hk
    split at hk
    · rename_i e; subst e
      simp only [if_true]
      cases hh : h w.heap.size with
      | none => rfl
      | some o => have := (Array.getElem?_eq_some_iff.1 (hS.ghost _ o hh)).1; omega
    · have hne : k ≠ s.nb := fun e => by rename_i h; exact h e.symm
      simp only [if_neg hne]
      exact hS.gno k b hk
  · refine hS.frame.trans ⟨rfl, rfl, rfl, by simp, fun b hb _ => hold b hb⟩
  · exact fun k o ho => ownsRow_of_block (hS.own k o ho) fun b hb => hold b (ownsRow_lt (hS.own k o ho) hb)
  · intro k o b ho hb'
    obtain ⟨h1, h2, h3⟩ := hS.ownB k o b ho hb'
    refine ⟨h1, fun j x hj => ?_, h3⟩
    simp only [bx_cons] at hj
    split at hj
    · rename_i e; subst e
      simp only [if_true]
      have := ownsRow_lt (hS.own k o ho) hb'
      omega
    · have hne : j ≠ s.nb := fun e => by rename_i h; exact h e.symm
      simp only [if_neg hne]
      exact h2 j x hj
end sim

/-- What an operation that writes one object comes to. -/
def objNext (nx : Next) (u : Value) (dst : Option Nat) : Prop := (nx = .skip ∧ dst = none) ∨ nx = .value u

/-- **An operation that writes an object**, by its meaning. -/
theorem G.semObj {C : Ctx} {h : GH} {c : Cfg} {m : Sem Next} {d : Option Nat} (hv : semAt c = some ⟨m, d, none⟩) (hd : dstOk C.n d = true) {k b : Nat} {o o' : Obj} (hb : bx k c.s.boxes = some ⟨some b, .obj o⟩) (u : Value) (sv : SV1) (hsv : ∀ N β, SV1Ok N β sv u)
    (H : ∃ nx, objNext nx u d ∧ ∀ w, w.heap[b]? = some o → m.run C.P w = .ok nx (setBlk w b o')) (hk : G C h (afterOp (withS c { c.s with boxes := (k, ⟨some b, .obj o'⟩) :: c.s.boxes }) (.one sv))) : G C h c := by
  intro β w tmps hS
  obtain ⟨todo, s⟩ := c
  unfold semAt at hv
  simp only at hv hS hb
  split at hv
  · rename_i ops i rest k'
    split at hv
    · rename_i o1 ho
      unfold semOf at hv
      split at hv
      · simp at hv
      · rename_i hsel
        split at hv
        · rename_i hg
          split at hv
          · rename_i hex
            simp only [Option.some.injEq, SemView.mk.injEq] at hv
            obtain ⟨rfl, rfl, -⟩ := hv
            obtain ⟨nx, hnx, hrun⟩ := H
            have hβ : β k = b := (hS.fresh k _ hb).1
            have hbk : w.heap[b]? = some o := by have h1 := hS.box k _ hb; rw [hβ] at h1; exact h1
            have hr : (execOp (evT tmps) o1).run C.P w = .ok nx (setBlk w b o') := by rw [sem_exec hS GOk.nil hsel hex]; exact hrun w hbk
            have hS' := hS.setObj (o' := o') hb
            rw [hβ] at hS'
            have hw : Region.wanted o1 (yielded ops tmps) = true := by simp [Region.wanted, hg]
            have hk' := hk β (setBlk w b o')
            simp only [afterOp, withS, ho, Option.bind_some] at hk'
            rcases hnx with ⟨rfl, hdn⟩ | rfl
            · refine Reach.skip ho hw hr ?_
              rw [put_tmps, hdn]
              rw [hdn] at hk'
              exact hk' _ hS'
            · refine Reach.value ho hw hr ?_
              rw [put_tmps]
              exact hk' _ (hS'.putD hd fun _ _ => hsv _ _)
          · simp at hv
        · split at hv
          · split at hv
            · simp at hv
            · simp at hv
          · simp at hv
    · simp at hv
  · simp at hv

/-- The same inside a region of open order. -/
theorem GDop.semObj {C : Ctx} {h0 h : GH} {ops : Array Oper} {kk : List Item} {ks : List Nat} {dd : DCfg} {i : Nat} {m : Sem Next} {d : Option Nat} (hv : semAtD ops dd i = some ⟨m, d, none⟩) (hd : dstOk C.n d = true) {k b : Nat} {o o' : Obj} (hb : bx k dd.s.boxes = some ⟨some b, .obj o⟩) (hks : memN k ks = false) (u : Value) (sv : SV1) (hsv : ∀ N β, SV1Ok N β sv u)
    (H : ∃ nx, objNext nx u d ∧ ∀ w, w.heap[b]? = some o → m.run C.P w = .ok nx (setBlk w b o')) (hk : GD C h0 h ops kk ks (afterN ops dd i { dd.s with boxes := (k, ⟨some b, .obj o'⟩) :: dd.s.boxes } (.one sv))) : GDop C h0 h ops kk ks dd i := by
  intro β w tmps L hS hL hlive hle
  obtain ⟨fuel, listed, s⟩ := dd
  unfold semAtD at hv
  simp only at hv hS hb hlive
  split at hv
  · rename_i o1 hi
    unfold semOf at hv
    split at hv
    · simp at hv
    · rename_i hsel
      split at hv
      · rename_i hg
        split at hv
        · rename_i hex
          simp only [Option.some.injEq, SemView.mk.injEq] at hv
          obtain ⟨rfl, rfl, -⟩ := hv
          obtain ⟨nx, hnx, hrun⟩ := H
          have hβ : β k = b := (hS.fresh k _ hb).1
          have hbk : w.heap[b]? = some o := by have h1 := hS.box k _ hb; rw [hβ] at h1; exact h1
          have hr : (execOp (evT tmps) o1).run C.P w = .ok nx (setBlk w b o') := by rw [sem_exec hS GOk.nil hsel hex]; exact hrun w hbk
          have hS' := hS.setObj (o' := o') hb
          rw [hβ] at hS'
          have hw : Region.wanted o1 (yielded ops tmps) = true := by simp [Region.wanted, hg]
          have hL' : L = ks.map (fun x => (β x, (setBlk w b o').heap[β x]?)) := by
            rw [hL]
            refine List.map_congr_left fun x hx => ?_
            obtain ⟨bb, hbb⟩ := hlive x hx
            rw [setBlk_other (fun e => ?_)]
            exact hS.inj x k bb _ hbb hb (fun e' => by rw [e'] at hx; rw [memN_iff.2 hx] at hks; cases hks) (e.trans hβ.symm)
          have hst : Stays L h0 (setBlk w b o') := by rw [hL']; exact Stays.of_sim hS' hle ks
          simp only [afterN, nextD, hi, Option.bind_some] at hk
          have hl : ∀ x ∈ ks, ∃ bb, bx x ((k, ⟨some b, .obj o'⟩) :: s.boxes) = some bb := fun x hx => by
            rw [bx_cons]; split
            · exact ⟨_, rfl⟩
            · exact hlive x hx
          rcases hnx with ⟨rfl, hdn⟩ | rfl
          · refine wpOp_skip hi hw hr ⟨hst, ?_⟩
            rw [act_put, hdn]
            rw [hdn] at hk
            exact hk β _ _ L hS' hL' hl hle
          · refine wpOp_value hi hw hr ⟨hst, ?_⟩
            rw [act_put]
            exact hk β _ _ L (hS'.putD hd fun _ _ => hsv _ _) hL' (fun x hx => by simp only [putS_boxes]; exact hl x hx) hle
        · simp at hv
      · split at hv
        · split at hv
          · simp at hv
          · simp at hv
        · simp at hv
  · simp at hv

/-- **An operation that reads an object**, by its meaning. -/
theorem G.semRd {C : Ctx} {h : GH} {c : Cfg} {m : Sem Next} {d : Option Nat} {g : Option (Nat × Bool)} (hv : semAt c = some ⟨m, d, g⟩) (hok : gOk C.n d g = true) {k b : Nat} {o : Obj} (hb : bx k c.s.boxes = some ⟨some b, .obj o⟩) (u : Value) (sv : SV1) (hsv : ∀ N β, SV1Ok N β sv u)
    (hrun : guardSays c.s g (∀ w, w.heap[b]? = some o → m.run C.P w = .ok (.value u) w)) (hk : G C h (afterOp c (gdOf g sv))) : G C h c := by
  intro β w tmps hS
  obtain ⟨todo, s⟩ := c
  unfold semAt at hv
  simp only at hv hS hb
  split at hv
  · rename_i ops i rest k'
    split at hv
    · rename_i o1 ho
      have hbk : w.heap[b]? = some o := by have h1 := hS.box _ _ hb; rw [(hS.fresh _ _ hb).1] at h1; exact h1
      obtain ⟨hd, hdo, hcase⟩ := semOf_ok (P := C.P) hS hv hok u sv hsv _ hrun
      have hk' := hk β w
      simp only [afterOp, ho, Option.bind_some] at hk'
      rw [hd] at hdo
      rcases hcase with ⟨⟨hwt, hr⟩, hu⟩ | ⟨hwt, hu⟩
      · refine Reach.value ho hwt (hr w hbk) ?_
        rw [put_tmps]
        exact hk' _ (hS.putD hdo hu)
      · refine Reach.unwanted ho hwt ?_
        rw [put_tmps]
        exact hk' _ (hS.putD hdo hu)
    · simp at hv
  · simp at hv

theorem GDop.semRd {C : Ctx} {h0 h : GH} {ops : Array Oper} {kk : List Item} {ks : List Nat} {d : DCfg} {i : Nat} {m : Sem Next} {dst : Option Nat} {g : Option (Nat × Bool)} (hv : semAtD ops d i = some ⟨m, dst, g⟩) (hok : gOk C.n dst g = true) {k b : Nat} {o : Obj} (hb : bx k d.s.boxes = some ⟨some b, .obj o⟩) (u : Value) (sv : SV1) (hsv : ∀ N β, SV1Ok N β sv u)
    (hrun : guardSays d.s g (∀ w, w.heap[b]? = some o → m.run C.P w = .ok (.value u) w)) (hk : GD C h0 h ops kk ks (afterN ops d i d.s (gdOf g sv))) : GDop C h0 h ops kk ks d i := by
  intro β w tmps L hS hL hlive hle
  obtain ⟨fuel, listed, s⟩ := d
  unfold semAtD at hv
  simp only at hv hS hlive hrun hb
  split at hv
  · rename_i o1 hi
    have hbk : w.heap[b]? = some o := by have h1 := hS.box _ _ hb; rw [(hS.fresh _ _ hb).1] at h1; exact h1
    obtain ⟨hd, hdo, hcase⟩ := semOf_ok (P := C.P) hS hv hok u sv hsv _ hrun
    simp only [afterN, nextD, hi, Option.bind_some] at hk
    rw [hd] at hdo
    have hst : Stays L h0 w := by rw [hL]; exact Stays.of_sim hS hle ks
    have hl : ∀ x ∈ ks, ∃ b, bx x (putS s o1.dst (gdOf g sv)).boxes = some b := fun x hx => by obtain ⟨b, hb⟩ := hlive x hx; exact ⟨b, by simp only [putS_boxes]; exact hb⟩
    rcases hcase with ⟨⟨hwt, hr⟩, hu⟩ | ⟨hwt, hu⟩
    · refine wpOp_value hi hwt (hr w hbk) ⟨hst, ?_⟩
      rw [act_put]
      exact hk β w _ L (hS.putD hdo hu) hL hl hle
    · refine wpOp_unwanted hi hwt ⟨hst, ?_⟩
      rw [act_put]
      exact hk β w _ L (hS.putD hdo hu) hL hl hle
  · simp at hv

/-- **A new object**; its block's number is told. -/
theorem G.newObj {C : Ctx} {h : GH} {c : Cfg} {m : Sem Next} {d : Option Nat} (hv : semAt c = some ⟨m, d, none⟩) (hd : dstOk C.n d = true) (o : Obj) (u : Nat → Value) (sv : Nat → SV1) (hsv : ∀ b N β, SV1Ok N β (sv b) (u b))
    (H : ∀ w : World, m.run C.P w = .ok (.value (u w.heap.size)) (w.alloc o)) (hk : ∀ b, G C h (afterOp (withS c { c.s with boxes := (c.s.nb, ⟨some b, .obj o⟩) :: c.s.boxes, nb := c.s.nb + 1 }) (.one (sv b)))) : G C h c := by
  intro β w tmps hS
  obtain ⟨todo, s⟩ := c
  unfold semAt at hv
  simp only at hv hS
  split at hv
  · rename_i ops i rest k'
    split at hv
    · rename_i o1 ho
      unfold semOf at hv
      split at hv
      · simp at hv
      · rename_i hsel
        split at hv
        · rename_i hg
          split at hv
          · rename_i hex
            simp only [Option.some.injEq, SemView.mk.injEq] at hv
            obtain ⟨rfl, rfl, -⟩ := hv
            have hr : (execOp (evT tmps) o1).run C.P w = .ok (.value (u w.heap.size)) (w.alloc o) := by rw [sem_exec hS GOk.nil hsel hex]; exact H w
            have hS' := hS.newObj o
            have hw : Region.wanted o1 (yielded ops tmps) = true := by simp [Region.wanted, hg]
            have hk' := hk w.heap.size (fun k => if k = s.nb then w.heap.size else β k) (w.alloc o)
            simp only [afterOp, withS, ho, Option.bind_some] at hk'
            refine Reach.value ho hw hr ?_
            rw [put_tmps]
            exact hk' _ (hS'.putD hd fun _ _ => hsv _ _ _)
          · simp at hv
        · split at hv
          · split at hv
            · simp at hv
            · simp at hv
          · simp at hv
    · simp at hv
  · simp at hv

/-! ### Maps keyed by whole numbers -/

structure IMap {α : Type} (R : Value → α → Prop) (o : Obj) (l : List (Int × α)) : Prop where
  row : ∃ (es : Array MapEntry) (clock : Nat), o = .map es clock ∧ es.size = l.length ∧ (∀ (i : Nat) (p : Int × α), l[i]? = some p → ∃ e : MapEntry, es[i]? = some e ∧ e.key = .int .i64 p.1 ∧ R e.val p.2) ∧ (es.toList.map (·.born)).Nodup ∧ ∀ e ∈ es.toList, e.born < clock
  nodup : (l.map (·.1)).Nodup

theorem IMap.mono {α : Type} {R R' : Value → α → Prop} {o : Obj} {l : List (Int × α)} (h : IMap R o l) (hR : ∀ v x, R v x → R' v x) : IMap R' o l := by
  obtain ⟨⟨es, clock, h1, h2, h3, h4⟩, h5⟩ := h
  exact ⟨⟨es, clock, h1, h2, fun i p hp => by obtain ⟨e, e1, e2, e3⟩ := h3 i p hp; exact ⟨e, e1, e2, hR _ _ e3⟩, h4⟩, h5⟩

theorem IMap.nil {α : Type} {R : Value → α → Prop} (clock : Nat) : IMap R (.map #[] clock) ([] : List (Int × α)) :=
  ⟨⟨#[], clock, rfl, rfl, fun i p hp => by simp at hp, by simp, fun e he => by simp at he⟩, by simp⟩

def getM {α : Type} (l : List (Int × α)) (k : Int) : Option α := (l.find? fun p => p.1 == k).map (·.2)
def setM {α : Type} (l : List (Int × α)) (k : Int) (x : α) : List (Int × α) := if l.any (fun p => p.1 == k) then l.map (fun p => if p.1 == k then (k, x) else p) else l ++ [(k, x)]

theorem findNow_ok {α : Type} {R : Value → α → Prop} (k : Int) : ∀ (l : List (Int × α)) (es : List MapEntry) (i0 : Nat), es.length = l.length → (∀ (i : Nat) (p : Int × α), l[i]? = some p → ∃ e : MapEntry, es[i]? = some e ∧ e.key = .int .i64 p.1 ∧ R e.val p.2) →
    (getM l k = none ∧ l.any (fun p => p.1 == k) = false ∧ Instr.findNow (.int .i64) (.int .i64 k) es i0 = some none) ∨
    ∃ i p e, l[i]? = some p ∧ p.1 = k ∧ getM l k = some p.2 ∧ l.any (fun p => p.1 == k) = true ∧ es[i]? = some e ∧ e.key = .int .i64 k ∧ R e.val p.2 ∧ Instr.findNow (.int .i64) (.int .i64 k) es i0 = some (some (i0 + i, e.val)) := by
  intro l
  induction l with
  | nil =>
    intro es i0 hl _
    have : es = [] := List.eq_nil_of_length_eq_zero hl
    subst this
    exact .inl ⟨rfl, rfl, rfl⟩
  | cons q l ih =>
    intro es i0 hl hrow
    cases es with
    | nil => simp at hl
    | cons e es =>
      obtain ⟨e', h1, h2, h3⟩ := hrow 0 q (by simp)
      simp only [List.getElem?_cons_zero, Option.some.injEq] at h1
      subst h1
      have hnow : Instr.sameNow (.int .i64) (.int .i64 k) e.key = some (k == q.1) := by rw [h2]; simp [Instr.sameNow]
      by_cases hk : q.1 = k
      · right
        refine ⟨0, q, e, by simp, hk, by simp [getM, hk], by simp [hk], by simp, by rw [h2, hk], h3, ?_⟩
        have : (k == q.1) = true := by simp [hk]
        simp only [Instr.findNow, hnow, this, Nat.add_zero]
      · have hne : (k == q.1) = false := by simp; exact fun h => hk h.symm
        have hne' : (q.1 == k) = false := by simpa using hk
        have hf : Instr.findNow (.int .i64) (.int .i64 k) (e :: es) i0 = Instr.findNow (.int .i64) (.int .i64 k) es (i0 + 1) := by simp only [Instr.findNow, hnow, hne]
        rcases ih es (i0 + 1) (by simpa using hl) (fun i p hp => by simpa using hrow (i + 1) p (by simpa using hp)) with ⟨g1, g2, g3⟩ | ⟨i, p, e2, g1, g2, g3, g4, g5, g6, g7, g8⟩
        · left
          refine ⟨?_, ?_, by rw [hf]; exact g3⟩
          · simpa [getM, hne', List.find?_cons] using g1
          · simp only [List.any_cons, hne', Bool.false_or]; exact g2
        · right
          refine ⟨i + 1, p, e2, by simpa using g1, g2, ?_, ?_, by simpa using g5, g6, g7, ?_⟩
          · simpa [getM, hne', List.find?_cons] using g3
          · simp only [List.any_cons, hne', Bool.false_or]; exact g4
          · rw [hf, g8, show i0 + 1 + i = i0 + (i + 1) by omega]

section maps
variable {α : Type} {P : Program} {R : Value → α → Prop} {o : Obj} {l : List (Int × α)} {T K E b : Nat} {w : World}

theorem run_findKey_i (hK : P.underlying K = some (.int .i64)) {es : List MapEntry} {k : Int} {r : Option (Nat × Value)} (h : Instr.findNow (.int .i64) (.int .i64 k) es 0 = some r) : (Instr.findKey K (.int .i64 k) es).run P w = .ok r w := by
  simp [Instr.findKey, run_underlying hK, h]

theorem run_checkKey_i (hK : P.underlying K = some (.int .i64)) (em : Bool) (k : Int) : (Instr.checkKey em 10000 K (.int .i64 k)).run P w = .ok () w := by
  have : (Instr.checkKey em (9999 + 1) K (.int .i64 k)).run P w = .ok () w := by
    rw [Instr.checkKey]; simp [run_underlying hK]
  exact this

theorem IMap.lookup (hm : IMap R o l) (hT : P.underlying T = some (.map K E)) (hK : P.underlying K = some (.int .i64)) {z : Value} (hz : ∃ i, P.info? E = some i ∧ i.zero = some z) (k : Int) (ok : Bool) :
    (getM l k = none ∧ ∀ w : World, w.heap[b]? = some o → (Instr.lookup T (.map (some b)) (.int .i64 k) ok).run P w = .ok (if ok then .tuple #[z, .bool false] else z) w) ∨
    ∃ x v, getM l k = some x ∧ R v x ∧ ∀ w : World, w.heap[b]? = some o → (Instr.lookup T (.map (some b)) (.int .i64 k) ok).run P w = .ok (if ok then .tuple #[v, .bool true] else v) w := by
  obtain ⟨⟨es, clock, rfl, h2, h3, -⟩, -⟩ := hm
  obtain ⟨i, hi, hz⟩ := hz
  rcases findNow_ok k l es.toList 0 (by simpa using h2) (by simpa using h3) with ⟨g1, -, g3⟩ | ⟨i, p, e, g1, g2, g3, -, g5, g6, g7, g8⟩
  · left
    refine ⟨g1, fun w hw => ?_⟩
    simp [Instr.lookup, run_underlying hT, MapKept.run_getObj_map hw, run_checkKey_i hK, run_findKey_i hK g3, zeroValue, typeInfo, hi, hz]
  · right
    refine ⟨p.2, e.val, g3, g7, fun w hw => ?_⟩
    simp [Instr.lookup, run_underlying hT, MapKept.run_getObj_map hw, run_checkKey_i hK, run_findKey_i hK g8]

theorem getElem_setM_of_mem {k : Int} {x : α} (h : l.any (fun p => p.1 == k) = true) : setM l k x = l.map (fun p => if p.1 == k then (k, x) else p) := by simp only [setM, h, if_true]

theorem nodup_idx {l : List (Int × α)} (hn : (l.map (·.1)).Nodup) {i j : Nat} {p q : Int × α} (hi : l[i]? = some p) (hj : l[j]? = some q) (h : p.1 = q.1) : i = j := by
  have hi' : (l.map (·.1))[i]? = some p.1 := by simp [hi]
  have hj' : (l.map (·.1))[j]? = some q.1 := by simp [hj]
  obtain ⟨li, ei⟩ := List.getElem?_eq_some_iff.1 hi'
  obtain ⟨lj, ej⟩ := List.getElem?_eq_some_iff.1 hj'
  exact (List.getElem_inj hn).1 (by rw [ei, ej, h])

theorem IMap.update (hm : IMap R o l) (hT : P.underlying T = some (.map K E)) (hK : P.underlying K = some (.int .i64)) (k : Int) {v : Value} {x : α} (hv : R v x) :
    ∃ o', IMap R o' (setM l k x) ∧ ∀ w : World, w.heap[b]? = some o → (Instr.mapUpdate T (.map (some b)) (.int .i64 k) v).run P w = .ok () (setBlk w b o') := by
  obtain ⟨⟨es, clock, rfl, h2, h3, hb1, hb2⟩, hn⟩ := hm
  rcases findNow_ok k l es.toList 0 (by simpa using h2) (by simpa using h3) with ⟨-, g2, g3⟩ | ⟨i, p, e, g1, g2, -, g4, g5, g6, g7, g8⟩
  · refine ⟨.map (es.push { key := .int .i64 k, val := v, born := clock }) (clock + 1), ⟨⟨_, _, rfl, ?_, ?_, ?_, ?_⟩, ?_⟩, fun w hw => ?_⟩
    · simp [setM, g2, h2]
    · intro i q hq
      simp only [setM, g2, Bool.false_eq_true, if_false] at hq
      by_cases hi : i < l.length
      · rw [List.getElem?_append_left hi] at hq
        obtain ⟨e, e1, e2, e3⟩ := h3 i q hq
        refine ⟨e, ?_, e2, e3⟩
        rw [Array.getElem?_push_lt (by omega)]
        rw [Array.getElem?_eq_getElem (by omega)] at e1
        exact e1
      · have hi' : i = l.length := by
          have := (List.getElem?_eq_some_iff.1 hq).1
          simp at this; omega
        subst hi'
        rw [List.getElem?_append_right (Nat.le_refl _)] at hq
        simp only [Nat.sub_self, List.getElem?_cons_zero, Option.some.injEq] at hq
        subst hq
        refine ⟨{ key := .int .i64 k, val := v, born := clock }, ?_, rfl, hv⟩
        rw [← h2]; simp
    · simp only [Array.toList_push, List.map_append, List.map_cons, List.map_nil]
      rw [List.nodup_append]
      refine ⟨hb1, by simp, fun a ha c hc => ?_⟩
      simp only [List.mem_singleton] at hc
      subst hc
      obtain ⟨e, he, rfl⟩ := List.mem_map.1 ha
      have := hb2 e he
      omega
    · intro e he
      simp only [Array.toList_push, List.mem_append, List.mem_singleton] at he
      rcases he with he | rfl
      · have := hb2 e he; omega
      · simp
    · simp only [setM, g2, Bool.false_eq_true, if_false, List.map_append, List.map_cons, List.map_nil]
      rw [List.nodup_append]
      refine ⟨hn, by simp, fun a ha c hc => ?_⟩
      simp only [List.mem_singleton] at hc
      subst hc
      rintro rfl
      obtain ⟨q, hq, hq'⟩ := List.mem_map.1 ha
      have := List.any_eq_false.1 g2 q hq
      simp [hq'] at this
    · simp [Instr.mapUpdate, run_underlying hT, MapKept.run_getObj_map hw, run_checkKey_i hK, run_findKey_i hK g3, MapKept.run_setObj_map _ hw, setBlk]
  · have hes : es[i]? = some e := by simpa using g5
    refine ⟨.map (es.modify i fun e => { e with key := .int .i64 k, val := v }) clock, ⟨⟨_, _, rfl, ?_, ?_, ?_, ?_⟩, ?_⟩, fun w hw => ?_⟩
    · simp [getElem_setM_of_mem g4, h2]
    · intro j q hq
      rw [getElem_setM_of_mem g4, List.getElem?_map] at hq
      obtain ⟨q0, hq0, rfl⟩ := Option.map_eq_some_iff.1 hq
      obtain ⟨e0, e1, e2, e3⟩ := h3 j q0 hq0
      by_cases hk : q0.1 = k
      · have hij : i = j := nodup_idx hn g1 hq0 (by rw [g2, hk])
        subst hij
        refine ⟨{ e0 with key := .int .i64 k, val := v }, ?_, ?_, ?_⟩
        · rw [Array.getElem?_modify, if_pos rfl, e1]; rfl
        · simp [hk]
        · simp [hk]; exact hv
      · have hij : i ≠ j := by rintro rfl; rw [g1] at hq0; simp only [Option.some.injEq] at hq0; exact hk (by rw [← hq0, g2])
        refine ⟨e0, ?_, ?_, ?_⟩
        · rw [Array.getElem?_modify, if_neg hij, e1]
        · simp [hk, e2]
        · simp [hk, e3]
    · have : (es.modify i fun e => { e with key := .int .i64 k, val := v }).toList.map (·.born) = es.toList.map (·.born) := by
        apply List.ext_getElem?
        intro j
        simp only [List.getElem?_map, Array.getElem?_toList, Array.getElem?_modify]
        by_cases hij : i = j
        · subst hij; rw [if_pos rfl]; cases es[i]? <;> rfl
        · rw [if_neg hij]
      rw [this]; exact hb1
    · intro e1 he1
      obtain ⟨j, hj⟩ := List.getElem?_of_mem he1
      rw [Array.getElem?_toList, Array.getElem?_modify] at hj
      by_cases hij : i = j
      · subst hij
        rw [if_pos rfl, hes] at hj
        simp only [Option.map_some, Option.some.injEq] at hj
        subst hj
        exact hb2 e (List.mem_of_getElem? g5)
      · rw [if_neg hij] at hj
        exact hb2 e1 (List.mem_of_getElem? (by rw [Array.getElem?_toList]; exact hj))
    · have : (setM l k x).map (·.1) = l.map (·.1) := by
        rw [getElem_setM_of_mem g4, List.map_map]
        refine List.map_congr_left fun q _ => ?_
        simp only [Function.comp]
        split
        · rename_i h
          have h' : q.1 = k := by simpa using h
          exact h'.symm
        · rfl
      rw [this]; exact hn
    · have hkey : (((es[0 + i]?).map (·.key)).getD (.int .i64 k)) = .int .i64 k := by rw [Nat.zero_add, hes]; simp [g6]
      have hst : (Instr.keyThatStays (.int .i64 k) (.int .i64 k)).run P w = .ok (.int .i64 k) w := by
        unfold Instr.keyThatStays
        rw [show Instr.sameBits 10000 (.int .i64 k) (.int .i64 k) = true by simp [Instr.sameBits]]
        simp
      simp [Instr.mapUpdate, run_underlying hT, MapKept.run_getObj_map hw, run_checkKey_i hK, run_findKey_i hK g8, hes, g6, hst, MapKept.run_setObj_map _ hw, setBlk]

theorem IMap.clear (hm : IMap R o l) {ty : TypeId} {cs : Array Bool} (hT : P.underlying T = some (.map K E)) :
    ∃ o', IMap R o' ([] : List (Int × α)) ∧ ∀ w : World, w.heap[b]? = some o → (builtin .clear #[T] ty cs #[.map (some b)]).run P w = .ok (.value (.tuple #[])) (setBlk w b o') := by
  obtain ⟨⟨es, clock, rfl, -⟩, -⟩ := hm
  refine ⟨.map #[] clock, IMap.nil clock, fun w hw => ?_⟩
  simp [builtin, Builtin.clear_, run_underlying hT, MapKept.run_getObj_map hw, MapKept.run_setObj_map _ hw, setBlk]

theorem IMap.len (hm : IMap R o l) {ty : TypeId} {cs : Array Bool} (hT : P.underlying T = some (.map K E)) (w : World) (hw : w.heap[b]? = some o) : (builtin .len #[T] ty cs #[.map (some b)]).run P w = .ok (.value (.int .i64 l.length)) w := by
  obtain ⟨⟨es, clock, rfl, h2, -⟩, -⟩ := hm
  simp [builtin, Builtin.len_, run_underlying hT, MapKept.run_getObj_map hw, goInt, h2]
end maps
end Go.Proofs.Ytkjahaoobdbffaa

/- The replica as plain data: what its methods compute. -/
namespace Go.Proofs.Ytkjahaoobdbffaa
open Go Go.RowKit

structure Rep where
  n0 : Nat
  id : Int
  timeout : Int
  view : Int
  normal : Int
  commit : Int
  active : Int
  log : List Ent
  changing : Bool
  acks : List (Int × Int)
  starts : List (Int × Bool)
  changes : List (Int × Msg)
  said : Bool
  quiet : Int
  out : List Msg

namespace Rep
def n (r : Rep) : Int := Int.ofNat (r.n0 + 1)
def len (r : Rep) : Int := (r.log.length : Int)
def forget (r : Rep) : Rep := { r with acks := [], starts := [], changes := [], said := false, quiet := 0 }
def primary (r : Rep) (v : Int) : Int := v.tmod r.n
def half (r : Rep) : Int := r.n.tdiv 2 + 1
def role (r : Rep) : Int := if r.changing = true then 2 else if r.primary r.view = r.id then 1 else 0
def msg (r : Rep) (to : Int) (m : Msg) : Msg := { m with view := r.view, frm := r.id, to := to }
def send (r : Rep) (to : Int) (m : Msg) : Rep := { r with out := r.out ++ [r.msg to m] }
def sayN (r : Rep) (m : Msg) : Nat → Rep
  | 0 => r
  | k + 1 => if (k : Int) = r.id then r.sayN m k else (r.sayN m k).send k m
def say (r : Rep) (m : Msg) : Rep := r.sayN m (r.n0 + 1)
def told (r : Rep) (kind : Int) : Msg := ⟨kind, 0, 0, 0, r.len, r.commit, 0, r.log⟩
def enter (r : Rep) (v : Int) : Rep := ({ r with view := v, changing := true } : Rep).forget
def begin (r : Rep) (v : Int) : Rep := ({ r.enter v with starts := setM (r.enter v).starts r.id true } : Rep).say ⟨4, 0, 0, 0, 0, 0, 0, []⟩
def fits (r : Rep) (l : List Ent) : Bool := decide ((l.length : Int) ≥ r.commit) && decide (l.take r.commit.toNat = r.log.take r.commit.toNat)
def extends_ (r : Rep) (l : List Ent) : Bool := decide ((l.length : Int) > r.len) && decide (l.take r.log.length = r.log)

/-- What is chosen among the changes: the normal view, the log, what is done. -/
structure Pick where
  normal : Int
  log : List Ent
  done : Int

def pick1 (r : Rep) (p : Pick) (k : Int) : Pick := match getM r.changes k with
  | none => p
  | some m => if r.fits m.log = true then
      (if m.normal > p.normal ∨ (m.normal = p.normal ∧ (m.log.length : Int) > (p.log.length : Int)) then ⟨m.normal, m.log, max p.done m.commit⟩ else ⟨p.normal, p.log, max p.done m.commit⟩)
    else p
def pickN (r : Rep) : Nat → Pick
  | 0 => ⟨r.normal, r.log, r.commit⟩
  | k + 1 => r.pick1 (r.pickN k) k

def settle (r : Rep) (p : Pick) : Rep := ({ r with log := p.log, commit := min p.done p.log.length, normal := r.view, changing := false } : Rep).forget
def mayDecide (r : Rep) : Bool := !(!r.changing || decide (r.primary r.view ≠ r.id) || decide ((r.changes.length : Int) + 1 < r.half))
def decide_ (r : Rep) : Rep := if r.mayDecide = true then (r.settle (r.pickN (r.n0 + 1))).say ((r.settle (r.pickN (r.n0 + 1))).told 6) else r

def maySee (r : Rep) : Bool := !(!r.changing || r.said || decide ((r.starts.length : Int) < r.half))
def see (r : Rep) : Rep := if r.maySee = true then
    (if r.primary r.view ≠ r.id then ({ r with said := true } : Rep).send (r.primary r.view) { r.told 5 with normal := r.normal } else ({ r with said := true } : Rep).decide_) else r

def takeOver (r : Rep) (m : Msg) : Rep := ({ r with view := m.view, normal := m.view, log := m.log, commit := max r.commit (min m.commit m.log.length), changing := false } : Rep).forget
def take (r : Rep) (m : Msg) : Rep := if r.fits m.log = true then (r.takeOver m).send (r.primary m.view) ⟨2, 0, 0, 0, (m.log.length : Int), 0, 0, []⟩ else r

def hadL (commit : Int) (e : Ent) : Nat → List Ent → Int → Int
  | _, [], out => out
  | i, x :: xs, out =>
    if x.client ≠ e.client ∨ x.request < e.request then hadL commit e (i + 1) xs out
    else if x.request > e.request ∨ (i : Int) < commit then 31 else hadL commit e (i + 1) xs 52
def had (r : Rep) (e : Ent) : Int := hadL r.commit e 0 r.log 0

def put (r : Rep) (e : Ent) : Rep := { r with log := r.log ++ [{ e with view := r.view }] }
def submitErr (r : Rep) (e : Ent) : Int := if r.role ≠ 1 then 50 else if entRight e = false then 10 else if r.had e ≠ 0 then r.had e else if r.len = 64 then 33 else 0
def submitOk (r : Rep) (e : Ent) : Rep := (r.put e).say { (r.put e).told 1 with log := [{ e with view := r.view }] }

def ticked (r : Rep) : Rep := { r with quiet := IntKind.i64.wrap (r.quiet + 1) }
def tick (r : Rep) : Rep :=
  if r.role = 1 then r.say ⟨3, 0, 0, 0, r.len, r.commit, 0, []⟩
  else if r.ticked.quiet ≥ r.timeout ∧ r.view < 1099511627776 then r.ticked.begin (r.view + 1) else r.ticked

def follow1 (r : Rep) (m : Msg) : Rep := if m.view > r.view then r.enter m.view else r
def follow2 (r : Rep) (m : Msg) : Rep := if r.changing = false ∧ m.kind = 1 ∧ m.op = r.len + 1 then { r with quiet := 0, log := r.log ++ m.log } else { r with quiet := 0 }
def follow3 (r : Rep) (m : Msg) : Rep := if r.changing = true ∨ m.op > r.len then r.send m.frm ⟨7, 0, 0, 0, r.len, 0, 0, []⟩ else r
def follow4 (r : Rep) (m : Msg) : Rep :=
  if r.changing = true then r
  else if m.op > r.len then { r with commit := max r.commit (min m.commit r.len) }
  else ({ r with commit := max r.commit (min m.commit r.len) } : Rep).send m.frm ⟨2, 0, 0, 0, r.len, 0, 0, []⟩
def follow (r : Rep) (m : Msg) : Rep := if m.frm ≠ r.primary m.view then r else (((r.follow1 m).follow2 m).follow3 m).follow4 m

def acked (r : Rep) (k : Nat) : Int := 1 + ((r.acks.countP fun p => decide (p.2 ≥ (k : Int)) : Nat) : Int)
def ackN (r : Rep) : Nat → Rep
  | 0 => r
  | k + 1 => if ((k + 1 : Nat) : Int) > r.commit then (if r.acked (k + 1) ≥ r.half then { r with commit := ((k + 1 : Nat) : Int) } else r.ackN k) else r
def ack1 (r : Rep) (m : Msg) : Rep := { r with acks := setM r.acks m.frm (max ((getM r.acks m.frm).getD 0) (min m.op r.len)) }
def ack (r : Rep) (m : Msg) : Rep := if m.view ≠ r.view ∨ r.role ≠ 1 then r else (r.ack1 m).ackN r.log.length

def turn1 (r : Rep) (m : Msg) : Rep := if m.view > r.view then r.begin m.view else r
def turn2 (r : Rep) (m : Msg) : Rep :=
  if m.kind = 4 ∧ r.changing = true then ({ r with starts := setM r.starts m.frm true } : Rep).see
  else if m.kind = 5 ∧ r.changing = true then ({ r with changes := setM r.changes m.frm m } : Rep).decide_
  else if m.kind = 5 then r.send m.frm (r.told 6) else r
def turn (r : Rep) (m : Msg) : Rep := if m.kind = 5 ∧ r.primary m.view ≠ r.id then r else (r.turn1 m).turn2 m

def newer (r : Rep) (m : Msg) : Bool := decide (m.view > r.view) || r.changing
def hear (r : Rep) (m : Msg) : Rep :=
  if m.kind = 1 ∨ m.kind = 3 then r.follow m
  else if m.kind = 2 then r.ack m
  else if m.kind = 4 ∨ m.kind = 5 then r.turn m
  else if m.kind = 6 then (if m.frm = r.primary m.view ∧ r.newer m = true then r.take m else r)
  else if m.kind = 7 then (if m.view = r.view ∧ r.changing = false then r.send m.frm (r.told 8) else r)
  else if m.kind = 8 then (if r.primary m.view ≠ r.id ∧ (r.newer m = true ∨ r.extends_ m.log = true) then r.take m else r)
  else r
def refuses (r : Rep) (m : Msg) : Bool := !msgRight m || decide (m.to ≠ r.id) || decide (m.frm = r.id) || decide (m.frm ≥ r.n)
end Rep
end Go.Proofs.Ytkjahaoobdbffaa

/- The base of this seat's proofs, twentieth part: a runner that goes through regions of open order too, all orders of which lead to the same, and stops where branches meet. -/
namespace Go.Proofs.Ytkjahaoobdbffaa
open Go Go.RowKit

def nextOfT (P : Program) (n : Nat) (tab : Tab) (ops : Array Oper) (ks : List Nat) (d : DCfg) (i : Nat) : Option DCfg := match nextOf P n ops ks d i with
  | some x => some x
  | none => match ops[i]? with
    | some o => match callOf d.s ops o with
      | some cv => (tabStep P n tab d.s cv).map fun sv => nextD d i (putS d.s o.dst sv)
      | none => none
    | none => none

def nextsOfT (P : Program) (n : Nat) (tab : Tab) (ops : Array Oper) (ks : List Nat) (d : DCfg) : List Nat → Option (List DCfg)
  | [] => some []
  | i :: is => match nextOfT P n tab ops ks d i, nextsOfT P n tab ops ks d is with
    | some x, some xs => some (x :: xs)
    | _, _ => none

def explT (P : Program) (n : Nat) (tab : Tab) (ops : Array Oper) (ks : List Nat) : Nat → DCfg → List DCfg
  | 0, d => [d]
  | m + 1, d => match runDT P n tab ops ks 100 d with
    | d1 => match isPos d1.fuel with
      | false => [d1]
      | true => match nextsOfT P n tab ops ks d1 (Region.ready .any ops d1.listed) with
        | some (x :: xs) => (x :: xs).flatMap (explT P n tab ops ks m)
        | _ => [d1]

theorem GDop.nextT {C : Ctx} {h0 h : GH} {tab : Tab} (ht : TabOk C.P tab) {ops : Array Oper} {k : List Item} {ks : List Nat} {d x : DCfg} {i : Nat} (hn : nextOfT C.P C.n tab ops ks d i = some x) (hk : GD C h0 h ops k ks x) : GDop C h0 h ops k ks d i := by
  unfold nextOfT at hn
  split at hn
  · rename_i x' hx
    simp only [Option.some.injEq] at hn; subst hn
    exact GDop.next hx hk
  · split at hn
    · rename_i o ho
      split at hn
      · rename_i cv hcv
        obtain ⟨sv, h1, rfl⟩ := map_some hn
        intro β w tmps L hS hL hlive hle
        obtain ⟨hd, hcase⟩ := tab_call ht hS hcv h1
        rcases hcase with ⟨hwt, f, args, hrun, hcall⟩ | ⟨hwt, hu⟩
        · refine wpOp_call ho hwt hrun (hcall.mono ?_)
          rintro e w' ⟨u, rfl, hb, hu⟩
          refine ⟨u, rfl, ?_⟩
          have hg' := Grow.of_below hS.sub hb
          have hL' : L = ks.map (fun x => (β x, w'.heap[β x]?)) := by
            rw [hL]
            refine List.map_congr_left fun x hx => ?_
            obtain ⟨b, hb'⟩ := hlive x hx
            rw [hb.block _ (hS.box x b hb').lt]
          refine ⟨by rw [hL']; exact Stays.of_sim (hS.grow hg') hle ks, ?_⟩
          rw [act_put]
          exact hk β w' _ L ((hS.grow hg').putD hd hu) hL' (fun x hx => by simp only [nextD, putS_boxes]; exact hlive x hx) hle
        · refine wpOp_unwanted ho hwt ⟨by rw [hL]; exact Stays.of_sim hS hle ks, ?_⟩
          rw [act_put]
          exact hk β w _ L (hS.putD hd hu) hL (fun x hx => by simp only [nextD, putS_boxes]; exact hlive x hx) hle
      · simp at hn
    · simp at hn

theorem nextsOfT_ok {P : Program} {n : Nat} {tab : Tab} {ops : Array Oper} {ks : List Nat} {d : DCfg} : ∀ (l : List Nat) (xs : List DCfg), nextsOfT P n tab ops ks d l = some xs → xs.length = l.length ∧ ∀ i ∈ l, ∃ x ∈ xs, nextOfT P n tab ops ks d i = some x := by
  intro l
  induction l with
  | nil => intro xs h; simp [nextsOfT] at h; subst h; simp
  | cons j l ih =>
    intro xs h
    simp only [nextsOfT] at h
    split at h
    · rename_i x ys h1 h2
      simp only [Option.some.injEq] at h; subst h
      obtain ⟨h3, h4⟩ := ih _ h2
      refine ⟨by simp [h3], fun i hi => ?_⟩
      simp only [List.mem_cons] at hi
      rcases hi with rfl | hi
      · exact ⟨x, by simp, h1⟩
      · obtain ⟨y, h5, h6⟩ := h4 i hi
        exact ⟨y, by simp [h5], h6⟩
    · simp at h

theorem GD.explT {C : Ctx} {h0 h : GH} {tab : Tab} (ht : TabOk C.P tab) {ops : Array Oper} {k : List Item} {ks : List Nat} (hns : Region.noSelect ops = true) : ∀ (m : Nat) {d : DCfg}, (∀ x ∈ explT C.P C.n tab ops ks m d, GD C h0 h ops k ks x) → GD C h0 h ops k ks d
  | 0, d, H => H d (by simp [Ytkjahaoobdbffaa.explT])
  | m + 1, d, H => by
    refine GD.runT ht hns 100 ?_
    rw [Ytkjahaoobdbffaa.explT] at H
    generalize runDT C.P C.n tab ops ks 100 d = d1 at H
    split at H
    · exact H d1 (by simp)
    · rename_i hp
      split at H
      · rename_i x xs hx
        obtain ⟨h1, h2⟩ := nextsOfT_ok _ _ hx
        refine GD.every (Region.ready .any ops d1.listed) ?_ fun i hi => ?_
        · unfold readyIs
          cases hf : d1.fuel with
          | zero => rw [hf] at hp; simp [isPos] at hp
          | succ f =>
            have : Region.ready .any ops d1.listed ≠ [] := by intro e; rw [e] at h1; simp at h1
            simp [this]
        · obtain ⟨y, h3, h4⟩ := h2 i hi
          exact GDop.nextT ht h4 (GD.explT ht hns m fun z hz => H z (by simp only [List.mem_flatMap]; exact ⟨y, h3, hz⟩))
      · exact H d1 (by simp)

/-! ### Which blocks a region writes, guessed -/

def updKey : Eff → List Nat
  | .upd k _ _ => [k]
  | _ => []

def dryStep (P : Program) (n : Nat) (tab : Tab) (ops : Array Oper) (s : S) (i : Nat) : S × List Nat := match ops[i]? with
  | none => (s, [])
  | some o => match o.guard with
    | none => match opEval P s [] o.op with
      | some (v, e) => (putS (applyEff s e) o.dst (.one v), updKey e)
      | none => match callOf s ops o with
        | some cv => match tabStep P n tab s cv with
          | some sv => (putS s o.dst sv, [])
          | none => (putS s o.dst anyS, [])
        | none => (putS s o.dst anyS, [])
    | some _ => match opSV P n s ops o with
      | some sv => (putS s o.dst sv, [])
      | none => match callOf s ops o with
        | some cv => match tabStep P n tab s cv with
          | some sv => (putS s o.dst sv, [])
          | none => (putS s o.dst anyS, [])
        | none => (putS s o.dst anyS, [])

def dryU (P : Program) (n : Nat) (tab : Tab) (ops : Array Oper) : List Nat → S → List Nat
  | [], _ => []
  | i :: is, s => match dryStep P n tab ops s i with
    | (s', l) => l ++ dryU P n tab ops is s'

def minusK (l u : List Nat) : List Nat := match l with
  | [] => []
  | x :: l => match memN x u with
    | true => minusK l u
    | false => x :: minusK l u

theorem minusK_sub {u : List Nat} {x : Nat} : ∀ {l : List Nat}, x ∈ minusK l u → x ∈ l := by
  intro l
  induction l with
  | nil => intro h; simp [minusK] at h
  | cons y l ih =>
    intro h
    simp only [minusK] at h
    split at h
    · simp [ih h]
    · simp only [List.mem_cons] at h ⊢
      exact h.imp id ih

def allDone (ops : Array Oper) : List DCfg → Bool
  | [] => true
  | d :: l => doneD ops d && allDone ops l

def stepX (P : Program) (n : Nat) (tab : Tab) (c : Cfg) : Option (Cfg × List (S × S)) := match stepET P n tab c with
  | some c' => some (c', [])
  | none => match drawAt c with
    | none => none
    | some ops => match explT P n tab ops (minusK (liveKeys c.s.boxes) (dryU P n tab ops (List.range ops.size) c.s)) 8 (startD c) with
      | [] => none
      | x :: xs => match Region.noSelect ops && (allDone ops (x :: xs) && okDs (x :: xs)) with
        | true => some (⟨restOf c, normS x.s⟩, (x :: xs).map fun d => (normS d.s, normS x.s))
        | false => none

def runX (P : Program) (n : Nat) (tab : Tab) (L : Nat) : Nat → Cfg → Cfg × List (S × S)
  | 0, c => (c, [])
  | m + 1, c => match Nat.ble c.todo.length L with
    | true => (c, [])
    | false => match stepX P n tab c with
      | some (c', o) => match runX P n tab L m c' with
        | (c'', o') => (c'', o ++ o')
      | none => (c, [])

theorem okDs_mem {l : List DCfg} (h : okDs l = true) : ∀ x ∈ l, okS (normS x.s) = true := by
  induction l with
  | nil => simp
  | cons y l ih =>
    simp only [okDs, Bool.and_eq_true] at h
    intro x hx
    simp only [List.mem_cons] at hx
    rcases hx with rfl | hx
    · exact h.1
    · exact ih h.2 x hx

theorem allDone_mem {ops : Array Oper} {l : List DCfg} (h : allDone ops l = true) : ∀ x ∈ l, doneD ops x = true := by
  induction l with
  | nil => simp
  | cons y l ih =>
    simp only [allDone, Bool.and_eq_true] at h
    intro x hx
    simp only [List.mem_cons] at hx
    rcases hx with rfl | hx
    · exact h.1
    · exact ih h.2 x hx

theorem G.norm {C : Ctx} {h : GH} {todo : List Item} {s : S} (hok : okS (normS s) = true) (hk : G C h ⟨todo, normS s⟩) : G C h ⟨todo, s⟩ := by
  intro β w tmps hS
  exact hk β w tmps (hS.restr hok)

theorem G.of_stepX {C : Ctx} {h : GH} {tab : Tab} (ht : TabOk C.P tab) (hm : C.P.follows .mixedOrders = true) {c c' : Cfg} {o : List (S × S)} (hs : stepX C.P C.n tab c = some (c', o)) (ho : ∀ p ∈ o, p.1 = p.2) (h' : G C h c') : G C h c := by
  unfold stepX at hs
  split at hs
  · rename_i c'' hc
    simp only [Option.some.injEq, Prod.mk.injEq] at hs
    obtain ⟨rfl, rfl⟩ := hs
    exact G.of_stepET ht hm hc h'
  · split at hs
    · simp at hs
    · rename_i ops hd
      split at hs
      · simp at hs
      · rename_i x xs hl
        split at hs
        · rename_i hb
          simp only [Bool.and_eq_true] at hb
          simp only [Option.some.injEq, Prod.mk.injEq] at hs
          obtain ⟨rfl, rfl⟩ := hs
          have hops : opsOf c = ops := by simp [opsOf, hd]
          refine G.draw (minusK (liveKeys c.s.boxes) (dryU C.P C.n tab ops (List.range ops.size) c.s)) hm (by rw [hd]; rfl) (liveAll_of fun y hy => liveKeys_ok _ y (minusK_sub hy)) ?_
          rw [hops]
          refine GD.explT ht hb.1 8 fun y hy => ?_
          rw [hl] at hy
          refine GD.fin (allDone_mem hb.2.1 y hy) (G.norm (okDs_mem hb.2.2 y hy) ?_)
          have h1 := ho (normS y.s, normS x.s) (List.mem_map.2 ⟨y, hy, rfl⟩)
          simp only at h1
          rw [h1]
          exact h'
        · simp at hs

/-- **The runner may be taken**: calls whose answers are known, and regions of open order; it stops where the rest is no longer than L. -/
theorem G.runX {C : Ctx} {h : GH} {tab : Tab} (ht : TabOk C.P tab) (hm : C.P.follows .mixedOrders = true) (L : Nat) : ∀ (m : Nat) {c : Cfg}, ((runX C.P C.n tab L m c).2.map (·.1) = (runX C.P C.n tab L m c).2.map (·.2)) → G C h (runX C.P C.n tab L m c).1 → G C h c
  | 0, _, _, h' => h'
  | m + 1, c, ho, h' => by
    unfold Ytkjahaoobdbffaa.runX at ho h'
    split at ho
    · rename_i hb; simp only [hb] at h'; exact h'
    · rename_i hb
      simp only [hb] at h'
      cases hs : stepX C.P C.n tab c with
      | none => rw [hs] at h'; exact h'
      | some p =>
        obtain ⟨c', o⟩ := p
        rw [hs] at h' ho
        simp only [List.map_append] at h' ho
        have hlen : (o.map (·.1)).length = (o.map (·.2)).length := by simp
        obtain ⟨h1, h2⟩ := List.append_inj ho hlen
        refine G.of_stepX ht hm hs (fun p hp => ?_) (G.runX ht hm L m h2 h')
        have : ∀ (l : List (S × S)), l.map (·.1) = l.map (·.2) → ∀ p ∈ l, p.1 = p.2 := by
          intro l
          induction l with
          | nil => intro _ p hp; simp at hp
          | cons a l ih =>
            intro hl p hp
            simp only [List.map_cons, List.cons.injEq] at hl
            simp only [List.mem_cons] at hp
            rcases hp with rfl | hp
            · exact hl.1
            · exact ih hl.2 p hp
        exact this o h1 p hp
end Go.Proofs.Ytkjahaoobdbffaa
