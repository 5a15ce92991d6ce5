/- The base of this seat's proofs, fourteenth part: blocks whose cells are not told one by one. -/
import Derived.Test.YtkjahaoobdbffaaB13
namespace Go.Proofs.Ytkjahaoobdbffaa
open Go Go.RowKit

def setBox (k : Nat) (x : BoxB) (s : S) : S := match bx k s.boxes with
  | some b => { s with boxes := (k, ⟨b.inc, x⟩) :: s.boxes }
  | none => s

/-- A block told another way. -/
theorem G.rebox {C : Ctx} {h : GH} {c : Cfg} (k : Nat) {b : Box} {x : BoxB} (hb : bx k c.s.boxes = some b) (hx : ∀ β w, BoxOk c.s.nb β w (β k) b.body → BoxOk c.s.nb β w (β k) x) (hk : G C h ⟨c.todo, { c.s with boxes := (k, ⟨b.inc, x⟩) :: c.s.boxes }⟩) : G C h c := by
  intro β w tmps hS
  have key : ∀ (j : Nat) (y : Box), bx j ((k, ⟨b.inc, x⟩) :: c.s.boxes) = some y → ∃ z, bx j c.s.boxes = some z ∧ z.inc = y.inc ∧ BoxOk c.s.nb β w (β j) y.body := by
    intro j y hy
    rw [bx_cons] at hy
    split at hy
    · rename_i e; subst e
      simp only [Option.some.injEq] at hy; subst hy
      exact ⟨b, hb, rfl, hx β w (hS.box _ _ hb)⟩
    · exact ⟨y, hy, rfl, hS.box _ _ hy⟩
  refine hk β w tmps ⟨hS.size, hS.slots, fun j y hy => ?_, fun j l y z hy hz hne => ?_, fun j y hy => ?_, fun j y hy => ?_, hS.ghost, fun j y hy => ?_, hS.frame, hS.gle, hS.gold, hS.own, fun l o g ho hg => ?_, hS.ownI⟩
  · obtain ⟨z, -, -, h3⟩ := key j y hy; exact h3
  · obtain ⟨y', h1, -⟩ := key j y hy
    obtain ⟨z', h2, -⟩ := key l z hz
    exact hS.inj j l y' z' h1 h2 hne
  · obtain ⟨y', h1, -⟩ := key j y hy; exact hS.keys j y' h1
  · obtain ⟨y', h1, h2, -⟩ := key j y hy
    have := hS.fresh j y' h1
    rw [h2] at this; exact this
  · obtain ⟨y', h1, -⟩ := key j y hy; exact hS.gno j y' h1
  · obtain ⟨h1, h2, h3⟩ := hS.ownB l o g ho hg
    exact ⟨h1, fun j y hy => by obtain ⟨y', h4, -⟩ := key j y hy; exact h2 j y' h4, h3⟩

theorem BoxOk.toObj {N : Nat} {β : Nat → Nat} {w : World} {b : Nat} {T : TypeId} {cs : List Cell} {vs : List Value} (hv : cellVals cs = some vs) (h : BoxOk N β w b (.lit T cs)) : BoxOk N β w b (.obj (.cells vs.toArray T (0, 0))) := by
  obtain ⟨arr, h1, h2⟩ := h
  have := cellVals_ok hv h2
  subst this
  simpa [BoxOk] using h1

theorem BoxOk.toLit {N : Nat} {β : Nat → Nat} {w : World} {b : Nat} {T : TypeId} {cs : List Cell} {arr : Array Value} (hv : CellsOk N β cs arr.toList) (h : BoxOk N β w b (.obj (.cells arr T (0, 0)))) : BoxOk N β w b (.lit T cs) := ⟨arr, h, hv⟩

structure StoreView where
  T : TypeId
  k : Nat
  off : Nat
  v : Value

def storeOf (s : S) (o : Oper) : Option StoreView := match o.op with
  | .store T x y => match o.guard, o.dst with
    | none, none => match evS s [] x, evS s [] y with
      | some (.atom (.ptr k off)), some sv => match sv.val with
        | some v => some ⟨T, k, off, v⟩
        | none => none
      | _, _ => none
    | _, _ => none
  | _ => none

def storeAtC (c : Cfg) : Option StoreView := match opAtC c with
  | some o => storeOf c.s o
  | none => none

def putCell (arr : Array Value) (off : Nat) (v : Value) : Array Value := (arr.toList.take off ++ [v] ++ arr.toList.drop (off + 1)).toArray

theorem putCell_size {arr : Array Value} {off : Nat} {v : Value} (h : off < arr.size) : (putCell arr off v).size = arr.size := by
  simp [putCell]; omega

theorem storeOf_ok {P : Program} {hE : GH} {w0 : World} {inc : List Nat} {n : Nat} {s : S} {h : GH} {β : Nat → Nat} {w : World} {tmps : Array Value} (hS : Sim hE w0 inc n s h β w tmps) {o : Oper} {T : TypeId} {k off : Nat} {v : Value} (hv : storeOf s o = some ⟨T, k, off, v⟩)
    {bi : Option Nat} {arr : Array Value} {T' : TypeId} (hb : bx k s.boxes = some ⟨bi, .obj (.cells arr T' (0, 0))⟩) (hoff : off < arr.size) (hone : v.oneCell' = true) (hz : sizeP P T = some 1) :
    o.guard = none ∧ o.dst = none ∧ (execOp (evT tmps) o).run P w = .ok .skip (w.setRow (β k) (putCell arr off v)) ∧ Sim hE w0 inc n { s with boxes := (k, ⟨bi, .obj (.cells (putCell arr off v) T' (0, 0))⟩) :: s.boxes } h β (w.setRow (β k) (putCell arr off v)) tmps := by
  unfold storeOf at hv
  split at hv
  · rename_i T0 x y hop
    split at hv
    · rename_i hg hd
      split at hv
      · rename_i k0 off0 sv hx hy
        split at hv
        · rename_i v0 hval
          simp only [Option.some.injEq, StoreView.mk.injEq] at hv
          obtain ⟨rfl, rfl, rfl, rfl⟩ := hv
          have hp := evS_atom hS GOk.nil hx
          simp only [CellOk] at hp
          have hvv := SV1.val_ok hval (evS_ok hS GOk.nil hy)
          have hh : w.heap[β k0]? = some (.cells arr T' (0, 0)) := hS.box _ _ hb
          have hcell : v0.cells = #[v0] := by cases v0 <;> simp_all [Value.cells, Value.oneCell']
          have hst := run_storeCells_at P (β k0) off0 T' [v0] 0 arr w hh (by simp; omega) (by simpa using hone)
          simp only [Nat.add_zero, List.length_cons, List.length_nil] at hst
          refine ⟨hg, hd, ?_, ?_⟩
          · simp [execOp, hop, Instr.storeAt, Instr.sureAddr, hp.1, storeVar, run_sizeP hz, hvv, hcell, hst, putCell]
          · have hnew : (w.setRow (β k0) (putCell arr off0 v0)).heap[β k0]? = some (.cells (putCell arr off0 v0) T' (0, 0)) := setRow_heap w (β k0) arr _ T' (0, 0) hh
            have hold : ∀ x, x ≠ β k0 → (w.setRow (β k0) (putCell arr off0 v0)).heap[x]? = w.heap[x]? := fun x hx => setRow_other hx
            have hfr := hS.fresh k0 _ hb
            have hkg := hS.gno k0 _ hb
            refine hS.after (inc' := [β k0]) rfl rfl ⟨rfl, rfl, rfl, by simp [World.setRow], fun b hb' hn => hold b (by simpa using hn)⟩ (fun b hbm => ?_) (fun j y hy => ?_) (fun l p hl => ?_) hS.ownI (GLe.refl h) (fun _ _ _ => rfl) (fun b o hbo => ?_)
            · simp only [List.mem_singleton] at hbm; subst hbm
              refine ⟨hkg, ?_⟩
              cases bi with
              | none => exact .inr hfr
              | some m => exact .inl (hfr.1 ▸ hfr.2)
            · rw [bx_cons] at hy
              split at hy
              · rename_i e; subst e
                simp only [Option.some.injEq] at hy; subst hy
                exact ⟨_, hb, rfl, hnew, hkg⟩
              · rename_i e
                exact ⟨y, hy, rfl, (hS.box j y hy).of_block (hold _ (hS.inj j k0 y _ hy hb fun e' => e e'.symm)), hS.gno j y hy⟩
            · refine ⟨ownsRow_of_block (hS.own l p hl) fun g hg => hold g fun e => (hS.ownB l p g hl hg).2.1 k0 _ hb e.symm, fun g hg => hS.ownB l p g hl hg⟩
            · have hne : b ≠ β k0 := fun e => by rw [e, hkg] at hbo; cases hbo
              rw [hold b hne]; exact hS.ghost b o hbo
        · simp at hv
      · simp at hv
    · simp at hv
  · simp at hv

/-- A guarded operation without effect, computed, where several may come up. -/
def effGAt (P : Program) (n : Nat) (ops : Array Oper) (d : DCfg) (i : Nat) : Option DCfg := match ops[i]? with
  | some o => match o.guard, o.dst with
    | some (j, want), some dd => match (ops[j]?).bind (·.dst) with
      | some tg => match opEval P d.s (chain d.s 4 tg want) o.op with
        | some (v, .no) => if Nat.blt dd n && Nat.blt tg n && !(Nat.beq tg dd) then some (nextD d i (putS d.s (some dd) (.gd tg want v))) else none
        | _ => none
      | none => none
    | _, _ => none
  | none => none

theorem GDop.effG {C : Ctx} {h0 h : GH} {ops : Array Oper} {k : List Item} {ks : List Nat} {d : DCfg} {i : Nat} (he : (effGAt C.P C.n ops d i).isSome = true) (hk : GD C h0 h ops k ks ((effGAt C.P C.n ops d i).getD d)) : GDop C h0 h ops k ks d i := by
  obtain ⟨d', hd'⟩ := Option.isSome_iff_exists.1 he
  rw [hd'] at hk
  simp only [Option.getD_some] at hk
  unfold effGAt at hd'
  split at hd'
  · rename_i o hi
    split at hd'
    · rename_i j want dd hg hdst
      split at hd'
      · rename_i tg hj
        split at hd'
        · rename_i v hev
          split at hd'
          · rename_i hd
            simp only [Option.some.injEq] at hd'; subst hd'
            intro β w tmps L hS hL hlive hle
            simp only [Bool.and_eq_true, Bool.not_eq_true'] at hd
            have htg : tg < C.n := Nat.le_of_ble_eq_true hd.1.2
            have hne : dd ≠ tg := fun e => by have := hd.2; rw [e, Nat.beq_refl] at this; cases this
            have hwi := wanted_of (tmps := tmps) hg hj (by rw [hS.size]; exact htg)
            by_cases hwt : Region.wanted o (yielded ops tmps) = true
            · have htrue := hwi.1 hwt
              obtain ⟨u, h1, h2⟩ := opEval_ok (P := C.P) hS (chain_ok hS 4 tg want htrue) hev
              refine wpOp_value hi hwt (h2 w fun _ _ _ => rfl) ⟨by rw [hL]; exact Stays.of_sim hS hle ks, ?_⟩
              rw [act_put, hdst]
              refine hk β w (putT tmps (some dd) u) L (hS.put (Nat.le_of_ble_eq_true hd.1.1) (.inl ⟨?_, h1⟩)) hL hlive hle
              rw [getD_set_other hne]; exact htrue
            · have hfalse : tmps.getD tg undef ≠ .bool want := fun e => hwt (hwi.2 e)
              refine wpOp_unwanted hi (by simpa using hwt) ⟨by rw [hL]; exact Stays.of_sim hS hle ks, ?_⟩
              rw [act_put, hdst]
              refine hk β w (putT tmps (some dd) undef) L (hS.put (Nat.le_of_ble_eq_true hd.1.1) (.inr ⟨?_, rfl⟩)) hL hlive hle
              rw [getD_set_other hne]; exact hfalse
          · simp at hd'
        · simp at hd'
      · simp at hd'
    · simp at hd'
  · simp at hd'

/-- **A store into a block whose cells are not told one by one.** -/
theorem G.storeObj {C : Ctx} {h : GH} {c : Cfg} {T : TypeId} {k off : Nat} {v : Value} (hv : storeAtC c = some ⟨T, k, off, v⟩) {bi : Option Nat} {arr : Array Value} {T' : TypeId} (hb : bx k c.s.boxes = some ⟨bi, .obj (.cells arr T' (0, 0))⟩) (hoff : off < arr.size) (hone : v.oneCell' = true) (hz : sizeP C.P T = some 1)
    (hk : G C h (afterOp (withS c { c.s with boxes := (k, ⟨bi, .obj (.cells (putCell arr off v) T' (0, 0))⟩) :: c.s.boxes }) anyS)) : G C h c := by
  intro β w tmps hS
  obtain ⟨todo, s⟩ := c
  unfold storeAtC opAtC at hv
  simp only at hv
  split at hv
  · rename_i o hop
    split at hop
    · rename_i ops i rest k'
      obtain ⟨hg, hd, hrun, hS'⟩ := storeOf_ok (P := C.P) hS hv hb hoff hone hz
      refine Reach.skip hop (by simp [Region.wanted, hg]) hrun ?_
      rw [put_tmps]
      have := hk β (w.setRow (β k) (putCell arr off v)) tmps
      simp only [afterOp, withS, hop, Option.bind_some, hd, putS] at this ⊢
      exact this hS'
    · simp at hop
  · simp at hv
end Go.Proofs.Ytkjahaoobdbffaa
