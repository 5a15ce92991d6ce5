/- The base of this seat's proofs, eleventh part: append onto slices of the call's own; what is not written any more. -/
import Derived.Test.YtkjahaoobdbffaaB10
namespace Go.Proofs.Ytkjahaoobdbffaa
open Go Go.RowKit

/-- What there is to know of a slice type and its elements. -/
structure ElT (P : Program) (T e : TypeId) (sz by_ : Nat) : Prop where
  hT : P.underlying T = some (.slice e)
  hz : ∃ i z, P.info? e = some i ∧ i.zero = some z ∧ i.size = sz ∧ i.bytes = by_ ∧ z.cells.size = sz
  pos : 0 < sz

def elTOk (P : Program) (e : TypeId) (sz by_ : Nat) : Bool := match P.info? e with
  | some i => (match i.zero with
    | some z => i.size == sz && i.bytes == by_ && z.cells.size == sz
    | none => false)
  | none => false

theorem ElT.of {P : Program} {T e : TypeId} {sz by_ : Nat} (hT : P.underlying T = some (.slice e)) (hk : elTOk P e sz by_ = true) (pos : 0 < sz) : ElT P T e sz by_ := by
  refine ⟨hT, ?_, pos⟩
  unfold elTOk at hk
  split at hk
  next i hi =>
    split at hk
    next z hz =>
      simp only [Bool.and_eq_true, beq_iff_eq] at hk
      exact ⟨i, z, hi, hz, hk.1.1, hk.1.2, hk.2⟩
    · simp at hk
  · simp at hk

def setOwn (k : Nat) (o : Own) (s : S) : S := { s with owns := (k, o) :: s.owns }

section sim
variable {P : Program} {hE : GH} {w0 : World} {inc : List Nat} {n : Nat} {s : S} {h : GH} {β : Nat → Nat} {w : World} {tmps : Array Value}

/-- An own slice has become another one, in its old block or in a new one. -/
theorem Sim.reown (hS : Sim hE w0 inc n s h β w tmps) {k : Nat} {o o' : Own} {w' : World} (hk : ow k s.owns = some o) (hg : w.grownBy w' o.v.ownBlock) (ho' : w'.ownsRow 0 o'.e o'.sz o'.v o'.n o'.xs)
    (hb : o'.v.ownBlock = o.v.ownBlock ∨ o'.v.ownBlock = some w.heap.size) : Sim hE w0 inc n (setOwn k o' s) h β w' tmps := by
  have hblk : ∀ x, x < w.heap.size → o.v.ownBlock ≠ some x → w'.heap[x]? = w.heap[x]? := fun x hx hne => hg.block x hx (fun e => hne e.symm)
  have hown : ∀ b, o.v.ownBlock = some b → h b = none ∧ (∀ j x, bx j s.boxes = some x → β j ≠ b) ∧ (b ∈ inc ∨ w0.heap.size ≤ b) := fun b hb => hS.ownB k o b hk hb
  refine ⟨hS.size, hS.slots, ?_, hS.inj, hS.keys, hS.fresh, ?_, hS.gno, ?_, hS.gle, hS.gold, ?_, ?_, ?_⟩
  · intro j b hj
    exact (hS.box j b hj).of_block (hblk _ (hS.box j b hj).lt fun e => (hown _ e).2.1 j b hj rfl)
  · intro b ob hbo
    have h1 := hS.ghost b ob hbo
    rw [hblk b (Array.getElem?_eq_some_iff.1 h1).1 fun e => by rw [(hown b e).1] at hbo; cases hbo]
    exact h1
  · refine ⟨hg.os.trans hS.frame.os, hg.tape.trans hS.frame.tape, hg.output.trans hS.frame.output, Nat.le_trans hS.frame.size hg.size, fun b hb hn => ?_⟩
    rw [hblk b (Nat.lt_of_lt_of_le hb hS.frame.size) fun e => by
      rcases (hown b e).2.2 with h1 | h1
      · exact hn h1
      · omega]
    exact hS.frame.block b hb hn
  · intro l p hl
    simp only [setOwn, ow_cons] at hl
    split at hl
    · simp only [Option.some.injEq] at hl; subst hl; exact ho'
    · rename_i hne
      refine ownsRow_of_block (hS.own l p hl) fun b hb' => hblk b (ownsRow_lt (hS.own l p hl) hb') fun e => ?_
      exact hS.ownI k l o p b hk hl hne e hb'
  · intro l p b hl hb'
    simp only [setOwn, ow_cons] at hl
    split at hl
    · simp only [Option.some.injEq] at hl; subst hl
      rcases hb with hb | hb
      · exact hown b (hb ▸ hb')
      · rw [hb] at hb'; injection hb' with hb'; subst hb'
        refine ⟨?_, fun j x hj => ?_, .inr hS.frame.size⟩
        · cases hh : h w.heap.size with
          | none => rfl
          | some ob => have := (Array.getElem?_eq_some_iff.1 (hS.ghost _ ob hh)).1; omega
        · have := (hS.box j x hj).lt; omega
    · exact hS.ownB l p b hl hb'
  · intro l m p q b hl hm hlm hb'
    simp only [setOwn, ow_cons] at hl hm
    split at hl <;> split at hm
    · omega
    · rename_i e1 e2; subst e1
      simp only [Option.some.injEq] at hl; subst hl
      rcases hb with hb | hb
      · exact hS.ownI k m o q b hk hm hlm (hb ▸ hb')
      · rw [hb] at hb'; injection hb' with hb'; subst hb'
        intro e
        have := ownsRow_lt (hS.own m q hm) e
        omega
    · rename_i e1 e2; subst e2
      simp only [Option.some.injEq] at hm; subst hm
      intro e
      rcases hb with hb | hb
      · exact hS.ownI k l o p b hk hl (fun x => hlm x.symm) (hb ▸ e) hb'
      · rw [hb] at e; injection e with e; subst e
        have := ownsRow_lt (hS.own l p hl) hb'
        omega
    · exact hS.ownI l m p q b hl hm hlm hb'

/-- A slice of the call's own is looked at as one from now on. -/
theorem Sim.addOwn (hS : Sim hE w0 inc n s h β w tmps) {k : Nat} {o : Own} (ho : w.ownsRow 0 o.e o.sz o.v o.n o.xs)
    (hb : ∀ b, o.v.ownBlock = some b → h b = none ∧ (∀ j x, bx j s.boxes = some x → β j ≠ b) ∧ (b ∈ inc ∨ w0.heap.size ≤ b) ∧ ∀ l p, ow l s.owns = some p → p.v.ownBlock ≠ some b) : Sim hE w0 inc n (setOwn k o s) h β w tmps := by
  refine ⟨hS.size, hS.slots, hS.box, hS.inj, hS.keys, hS.fresh, hS.ghost, hS.gno, hS.frame, hS.gle, hS.gold, ?_, ?_, ?_⟩
  · intro l p hl
    simp only [setOwn, ow_cons] at hl
    split at hl
    · simp only [Option.some.injEq] at hl; subst hl; exact ho
    · exact hS.own l p hl
  · intro l p b hl hb'
    simp only [setOwn, ow_cons] at hl
    split at hl
    · simp only [Option.some.injEq] at hl; subst hl
      exact ⟨(hb b hb').1, (hb b hb').2.1, (hb b hb').2.2.1⟩
    · exact hS.ownB l p b hl hb'
  · intro l m p q b hl hm hlm hb'
    simp only [setOwn, ow_cons] at hl hm
    split at hl <;> split at hm
    · omega
    · simp only [Option.some.injEq] at hl; subst hl
      exact (hb b hb').2.2.2 m q hm
    · simp only [Option.some.injEq] at hm; subst hm
      intro e
      exact (hb b e).2.2.2 l p hl hb'
    · exact hS.ownI l m p q b hl hm hlm hb'
end sim

/-- nil is a slice of one's own. -/
theorem G.ownNil {C : Ctx} {h : GH} {c : Cfg} (k : Nat) (e : TypeId) (sz : Nat) (hG : G C h ⟨c.todo, setOwn k ⟨e, sz, .slice none 0 0, 0, []⟩ c.s⟩) : G C h c := by
  intro β w tmps hS
  exact hG β w tmps (hS.addOwn (World.ownsRow_nil w 0 e sz) fun b hb => by simp [Value.ownBlock] at hb)

/-! ### append -/

structure AppView where
  T : TypeId
  U : TypeId
  s : SV1
  x : SV1
  dst : Option Nat

def appOf (s : S) (o : Oper) : Option AppView :=
  match o.op with
  | .call ⟨.builtin .append, args, types⟩ => match o.guard with
    | none => match args.toList, types.toList with
      | [a, b], [T, U] => match evS s [] a, evS s [] b with
        | some x, some y => some ⟨T, U, x, y, o.dst⟩
        | _, _ => none
      | _, _ => none
    | _ => none
  | _ => none

theorem appOf_ok {P : Program} {hE : GH} {w0 : World} {inc : List Nat} {n : Nat} {s : S} {h : GH} {β : Nat → Nat} {w : World} {tmps : Array Value} (hS : Sim hE w0 inc n s h β w tmps) {o : Oper} {T U : TypeId} {x y : SV1} {d : Option Nat} (ha : appOf s o = some ⟨T, U, x, y, d⟩) :
    o.guard = none ∧ d = o.dst ∧ ∃ a b : Value, SV1Ok s.nb β x a ∧ SV1Ok s.nb β y b ∧ ∀ v w', (Builtin.append_ #[T, U] o.type #[a, b]).run P w = .ok v w' → (execOp (evT tmps) o).run P w = .ok (.value v) w' := by
  unfold appOf at ha
  split at ha
  · rename_i args types hop
    split at ha
    · rename_i hg
      split at ha
      · rename_i a b T' U' h1 h2
        have h1' : args = #[a, b] := by apply Array.ext'; simpa using h1
        have h2' : types = #[T', U'] := by apply Array.ext'; simpa using h2
        subst h1' h2'
        split at ha
        · rename_i x' y' hx hy
          simp only [Option.some.injEq, AppView.mk.injEq] at ha
          obtain ⟨rfl, rfl, rfl, rfl, rfl⟩ := ha
          refine ⟨hg, rfl, _, _, evS_ok hS GOk.nil hx, evS_ok hS GOk.nil hy, fun v w' hr => ?_⟩
          simp [execOp, hop, resolve, invoke, builtin, hr]
        · simp at ha
      · simp at ha
    · simp at ha
  · simp at ha

def opAtC (c : Cfg) : Option Oper := match c.todo with
  | .inRegion ops (i :: _) :: _ => ops[i]?
  | _ => none

def appView (c : Cfg) : Option AppView := match opAtC c with
  | some o => appOf c.s o
  | none => none

/-- An operation that is not computed, whatever it does. -/
theorem G.opR {C : Ctx} {h : GH} {c : Cfg} {o : Oper} (ho : opAtC c = some o) (hg : o.guard = none) (hd : dstOk C.n o.dst = true)
    (H : ∀ β w tmps, Sim C.hE C.w0 C.inc C.n c.s h β w tmps → ∃ u w' β' h' s' sv, (execOp (evT tmps) o).run C.P w = .ok (.value u) w' ∧ Sim C.hE C.w0 C.inc C.n s' h' β' w' tmps ∧ (∀ tmps', SVOk s'.nb β' tmps' sv u) ∧ G C h' (afterOp (withS c s') sv)) : G C h c := by
  intro β w tmps hS
  obtain ⟨todo, s⟩ := c
  unfold opAtC at ho
  simp only at ho
  split at ho
  · rename_i ops i rest k
    obtain ⟨u, w', β', h', s', sv, hrun, hS', hsv, hG⟩ := H β w tmps hS
    refine Reach.value ho (by simp [Region.wanted, hg]) hrun ?_
    rw [put_tmps]
    have := hG β' w' (putT tmps o.dst u)
    simp only [afterOp, withS, ho, Option.bind_some] at this
    exact this (hS'.putD hd fun d _ => hsv _)
  · simp at ho

theorem GDop.opR {C : Ctx} {h0 h : GH} {ops : Array Oper} {k : List Item} {ks : List Nat} {d : DCfg} {i : Nat} {o : Oper} (hi : ops[i]? = some o) (hg : o.guard = none) (hd : dstOk C.n o.dst = true)
    (H : ∀ β w tmps, Sim C.hE C.w0 C.inc C.n d.s h β w tmps → ∃ u w' β' h' s' sv, (execOp (evT tmps) o).run C.P w = .ok (.value u) w' ∧ Sim C.hE C.w0 C.inc C.n s' h' β' w' tmps ∧ (∀ tmps', SVOk s'.nb β' tmps' sv u) ∧ GLe h h' ∧
      (∀ x ∈ ks, (∃ b, bx x d.s.boxes = some b) → β' x = β x ∧ w'.heap[β x]? = w.heap[β x]? ∧ ∃ b, bx x s'.boxes = some b) ∧ GD C h0 h' ops k ks (afterN ops d i s' sv)) : GDop C h0 h ops k ks d i := by
  intro β w tmps L hS hL hlive hle
  obtain ⟨u, w', β', h', s', sv, hrun, hS', hsv, hle', hks, hG⟩ := H β w tmps hS
  have hL' : L = ks.map (fun x => (β' x, w'.heap[β' x]?)) := by
    rw [hL]
    refine List.map_congr_left fun x hx => ?_
    obtain ⟨h1, h2, -⟩ := hks x hx (hlive x hx)
    rw [h1, h2]
  refine wpOp_value hi (by simp [Region.wanted, hg]) hrun ⟨by rw [hL']; exact Stays.of_sim hS' (hle.trans hle') ks, ?_⟩
  rw [act_put]
  have := hG β' w' (putT tmps o.dst u) L
  simp only [afterN, nextD, hi, Option.bind_some] at this
  exact this (hS'.putD hd fun d _ => hsv _) hL' (fun x hx => by simp only [putS_boxes]; exact (hks x hx (hlive x hx)).2.2) (hle.trans hle')

/-- What an append of new cells to a slice of the call's own comes to. -/
theorem app_own {P : Program} {hE : GH} {w0 : World} {inc : List Nat} {n : Nat} {s : S} {h : GH} {β : Nat → Nat} {w : World} {tmps : Array Value} (hS : Sim hE w0 inc n s h β w tmps) {T e ty : TypeId} {sz by_ : Nat} (hEl : ElT P T e sz by_) {k : Nat} {v : Value} {m : Nat} {xs : List Value}
    (ho : ow k s.owns = some ⟨e, sz, v, m, xs⟩) {a : Addr} {q c : Nat} {news : List Value} (hl : news.length = q * sz) (hnews : ∀ j u, news[j]? = some u → w.cell? (a.add j) = some u) (h1 : ∀ u ∈ news, u.oneCell' = true)
    (hmax : m + q ≤ 140737488351232) (hby : (m + q) * by_ ≤ 140737488355328) :
    ∃ v' w', (Builtin.append_ #[T, T] ty #[v, .slice (some a) q c]).run P w = .ok v' w' ∧ (∃ a' c', v' = .slice a' (m + q) c') ∧ Sim hE w0 inc n (setOwn k ⟨e, sz, v', m + q, xs ++ news⟩ s) h β w' tmps ∧ w.grownBy w' v.ownBlock ∧ (0 < q → v'.ownBlock ≠ none) := by
  obtain ⟨i, z, hi, hz, hsz, hb, hzs⟩ := hEl.hz
  have hrow := hS.own k _ ho
  simp only at hrow
  obtain ⟨v', w', hr, h2, h3, h4, h5⟩ := run_append_own_at (P := P) w 0 T ty e i z sz by_ hEl.hT hi hz hsz hb hzs hEl.pos v m xs hrow a q c news hl hnews h1 (by unfold maxLen; omega) hby (Nat.zero_le _)
  refine ⟨v', w', hr, ?_, hS.reown ho h3 h2 h5, h3, fun hq => ?_⟩
  · rcases h2.2 with ⟨rfl, h0⟩ | ⟨g, cap, cur, rfl, _⟩
    · exact ⟨none, 0, by rw [h0]⟩
    · exact ⟨_, _, rfl⟩
  · rcases h2.2 with ⟨rfl, h0⟩ | ⟨g, cap, cur, rfl, _⟩
    · omega
    · simp [Value.ownBlock]

/-- The cells of a block that is known, as an append's source. -/
theorem lit_src {N : Nat} {β : Nat → Nat} {w : World} {b off : Nat} {T : TypeId} {cs : List Cell} {news : List Value} (hb : BoxOk N β w b (.lit T cs)) (hv : cellVals (cs.drop off) = some news) :
    ∀ j u, news[j]? = some u → w.cell? ((⟨b, off, none⟩ : Addr).add j) = some u := by
  obtain ⟨arr, h1, h2⟩ := hb
  have h3 := cellVals_ok hv (h2.drop off)
  intro j u hj
  rw [Addr.add_lit, cell_of_heap h1]
  rw [← h3, List.getElem?_drop] at hj
  simpa using hj

theorem cellVals_oneCell {N : Nat} {β : Nat → Nat} {cs : List Cell} {vs : List Value} (hv : cellVals cs = some vs) {us : List Value} (hu : CellsOk N β cs us) : ∀ u ∈ vs, u.oneCell' = true := by
  have := cellVals_ok hv hu
  subst this
  refine CellsOk.oneCell hu fun c hc => ?_
  rintro rfl
  clear hu
  induction cs generalizing us with
  | nil => cases hc
  | cons x cs ih =>
    simp only [cellVals] at hv
    split at hv
    · rename_i v vs h1 h2
      simp only [List.mem_cons] at hc
      rcases hc with rfl | hc
      · simp [Cell.val] at h1
      · exact ih h2 hc
    · simp at hv

/-- **append of a literal's elements to a slice of the call's own.** -/
theorem G.appLit {C : Ctx} {h : GH} {c : Cfg} {T e : TypeId} {sz by_ : Nat} (hEl : ElT C.P T e sz by_) (k : Nat) {v : Value} {m : Nat} {xs : List Value} {kx q q' : Nat} {d : Option Nat} (ha : appView c = some ⟨T, T, .atom (.sl v m), .atom (.bsl kx 0 q q'), d⟩) (hd : dstOk C.n d = true)
    (ho : ow k c.s.owns = some ⟨e, sz, v, m, xs⟩) {bi : Option Nat} {e' : TypeId} {cs : List Cell} (hb : bx kx c.s.boxes = some ⟨bi, .lit e' cs⟩) {news : List Value} (hv : cellVals cs = some news) (hl : news.length = q * sz)
    (hmax : m + q ≤ 140737488351232) (hby : (m + q) * by_ ≤ 140737488355328)
    (hk : ∀ v', (0 < q → v'.ownBlock ≠ none) → G C h (afterOp (withS c (setOwn k ⟨e, sz, v', m + q, xs ++ news⟩ c.s)) (.one (.atom (.sl v' (m + q)))))) : G C h c := by
  unfold appView at ha
  split at ha
  · rename_i o hop
    have hs : ∀ β w tmps, Sim C.hE C.w0 C.inc C.n c.s h β w tmps → o.guard = none ∧ d = o.dst := fun β w tmps hS => let ⟨a, b, _⟩ := appOf_ok (P := C.P) hS ha; ⟨a, b⟩
    intro β w tmps hS
    obtain ⟨hg, hdd⟩ := hs β w tmps hS
    refine G.opR hop hg (hdd ▸ hd) ?_ β w tmps hS
    intro β w tmps hS
    obtain ⟨_, _, a, b, hav, hbv, hrun⟩ := appOf_ok (P := C.P) hS ha
    simp only [SV1Ok, CellOk] at hav hbv
    obtain ⟨rfl, _⟩ := hav
    obtain ⟨rfl, _⟩ := hbv
    have hbox := hS.box _ _ hb
    have hbox' := hbox
    obtain ⟨arr, _, hcs⟩ := hbox'
    obtain ⟨v', w', h1, h2, h3, h4, h5⟩ := app_own hS hEl (ty := o.type) ho hl (lit_src (off := 0) hbox (by simpa using hv)) (cellVals_oneCell hv hcs) hmax hby (c := q')
    exact ⟨v', w', β, h, _, .one (.atom (.sl v' (m + q))), hrun _ _ h1, h3, fun tmps' => ⟨rfl, h2⟩, hk v' h5⟩
  · simp at ha

def appAtD (ops : Array Oper) (d : DCfg) (i : Nat) : Option AppView := match ops[i]? with
  | some o => appOf d.s o
  | none => none

/-- The same inside a region of open order. -/
theorem GDop.appLit {C : Ctx} {h0 h : GH} {ops : Array Oper} {kk : List Item} {ks : List Nat} {dd : DCfg} {i : Nat} {T e : TypeId} {sz by_ : Nat} (hEl : ElT C.P T e sz by_) (k : Nat) {v : Value} {m : Nat} {xs : List Value} {kx q q' : Nat} {d : Option Nat} (ha : appAtD ops dd i = some ⟨T, T, .atom (.sl v m), .atom (.bsl kx 0 q q'), d⟩) (hd : dstOk C.n d = true)
    (ho : ow k dd.s.owns = some ⟨e, sz, v, m, xs⟩) {bi : Option Nat} {e' : TypeId} {cs : List Cell} (hb : bx kx dd.s.boxes = some ⟨bi, .lit e' cs⟩) {news : List Value} (hv : cellVals cs = some news) (hl : news.length = q * sz)
    (hmax : m + q ≤ 140737488351232) (hby : (m + q) * by_ ≤ 140737488355328)
    (hk : ∀ v', (0 < q → v'.ownBlock ≠ none) → GD C h0 h ops kk ks (afterN ops dd i (setOwn k ⟨e, sz, v', m + q, xs ++ news⟩ dd.s) (.one (.atom (.sl v' (m + q)))))) : GDop C h0 h ops kk ks dd i := by
  unfold appAtD at ha
  split at ha
  case h_2 => simp at ha
  rename_i o hi
  intro β w tmps L hS
  obtain ⟨hg, hdd, _⟩ := appOf_ok (P := C.P) hS ha
  refine GDop.opR hi hg (hdd ▸ hd) ?_ β w tmps L hS
  intro β w tmps hS
  obtain ⟨_, _, a, b, hav, hbv, hrun⟩ := appOf_ok (P := C.P) hS ha
  simp only [SV1Ok, CellOk] at hav hbv
  obtain ⟨rfl, _⟩ := hav
  obtain ⟨rfl, _⟩ := hbv
  have hbox := hS.box _ _ hb
  have hbox' := hbox
  obtain ⟨arr, _, hcs⟩ := hbox'
  obtain ⟨v', w', h1, h2, h3, h4, h5⟩ := app_own hS hEl (ty := o.type) ho hl (lit_src (off := 0) hbox (by simpa using hv)) (cellVals_oneCell hv hcs) hmax hby (c := q')
  refine ⟨v', w', β, h, _, .one (.atom (.sl v' (m + q))), hrun _ _ h1, h3, fun tmps' => ⟨rfl, h2⟩, GLe.refl h, fun x hx => ?_, hk v' h5⟩
  rintro ⟨bb, hbb⟩
  exact ⟨rfl, h4.block _ (hS.box x bb hbb).lt fun e => (hS.ownB k _ _ ho e.symm).2.1 x bb hbb rfl, bb, hbb⟩

/-! ### What is not written any more -/

def dropOwn (k : Nat) : List (Nat × Own) → List (Nat × Own)
  | [] => []
  | (x, o) :: l => if Nat.beq x k then dropOwn k l else (x, o) :: dropOwn k l

theorem ow_drop {k l : Nat} {o : Own} : ∀ {os : List (Nat × Own)}, ow l (dropOwn k os) = some o → ow l os = some o ∧ l ≠ k := by
  intro os
  induction os with
  | nil => intro h; simp [dropOwn, ow] at h
  | cons p os ih =>
    obtain ⟨x, q⟩ := p
    intro h
    simp only [dropOwn] at h
    by_cases hx : Nat.beq x k = true
    · rw [if_pos hx] at h
      have := ih h
      rw [ow_cons, if_neg (fun e => this.2 (by rw [← e]; exact Nat.eq_of_beq_eq_true hx))]
      exact this
    · rw [if_neg hx, ow_cons] at h
      rw [ow_cons]
      split
      · rename_i e
        rw [if_pos e] at h
        exact ⟨h, fun e' => hx (nbeq_iff.2 (e.trans e'))⟩
      · rename_i e
        rw [if_neg e] at h
        exact ih h

/-- A slice's cells, known row by row. -/
def ListR {α : Type} (sz : Nat) (R : List Value → α → Prop) (xs : List Value) (l : List α) : Prop :=
  xs.length = l.length * sz ∧ ∀ i x, l[i]? = some x → R ((xs.drop (i * sz)).take sz) x

theorem ListR.nil {α : Type} {sz : Nat} {R : List Value → α → Prop} : ListR sz R [] ([] : List α) := ⟨by simp, fun i x h => by simp at h⟩

theorem ListR.snoc {α : Type} {sz : Nat} {R : List Value → α → Prop} {xs : List Value} {l : List α} (h : ListR sz R xs l) {news : List Value} {x : α} (hn : news.length = sz) (hx : R news x) : ListR sz R (xs ++ news) (l ++ [x]) := by
  obtain ⟨h1, h2⟩ := h
  refine ⟨by simp [h1, hn, Nat.add_mul], fun i y hy => ?_⟩
  by_cases hi : i < l.length
  · rw [List.getElem?_append_left hi] at hy
    have hle : (i + 1) * sz ≤ l.length * sz := Nat.mul_le_mul_right _ hi
    rw [Nat.add_mul, Nat.one_mul] at hle
    rw [List.drop_append_of_le_length (by omega), List.take_append_of_le_length (by rw [List.length_drop]; omega)]
    exact h2 i y hy
  · have hi' : i = l.length := by
      have := (List.getElem?_eq_some_iff.1 hy).1
      simp at this; omega
    subst hi'
    simp at hy; subst hy
    rw [← h1, List.drop_left, List.take_of_length_le (by omega)]
    exact hx

theorem ListR.mono {α : Type} {sz : Nat} {R R' : List Value → α → Prop} {xs : List Value} {l : List α} (h : ListR sz R xs l) (hR : ∀ cs x, R cs x → R' cs x) : ListR sz R' xs l := ⟨h.1, fun i x hx => hR _ _ (h.2 i x hx)⟩

/-- What nobody writes any more is told apart. -/
theorem G.freeze {C : Ctx} {h : GH} {c : Cfg} (k : Nat) {e : TypeId} {sz : Nat} {v : Value} {m : Nat} {xs : List Value} (ho : ow k c.s.owns = some ⟨e, sz, v, m, xs⟩)
    (hk : ∀ h', GLe h h' → (v = .slice none 0 0 ∧ m = 0 ∨ ∃ g cap cur, v = .slice (some ⟨g, 0, none⟩) m cap ∧ m ≤ cap ∧ h' g = some (.cells cur e (0, 0)) ∧ cur.size = cap * sz ∧ cur.toList.take (m * sz) = xs) →
      xs.length = m * sz → G C h' ⟨c.todo, { c.s with owns := dropOwn k c.s.owns }⟩) : G C h c := by
  intro β w tmps hS
  obtain ⟨hlen, hrow⟩ := hS.own k _ ho
  simp only at hlen hrow
  rcases hrow with ⟨rfl, rfl⟩ | ⟨g, cap, cur, rfl, _, hg, hmc, hcm, hcs, htake⟩
  · refine hk h (GLe.refl h) (.inl ⟨rfl, rfl⟩) hlen β w tmps ⟨hS.size, hS.slots, hS.box, hS.inj, hS.keys, hS.fresh, hS.ghost, hS.gno, hS.frame, hS.gle, hS.gold, ?_, ?_, ?_⟩
    · exact fun l p hl => hS.own l p (ow_drop hl).1
    · exact fun l p b hl => hS.ownB l p b (ow_drop hl).1
    · exact fun l m p q b hl hm => hS.ownI l m p q b (ow_drop hl).1 (ow_drop hm).1
  · obtain ⟨hn, hβ, hin⟩ := hS.ownB k _ g ho rfl
    refine hk (fun b => if b = g then some (.cells cur e (0, 0)) else h b) (fun b o hb => ?_) (.inr ⟨g, cap, cur, rfl, hmc, by simp, hcs, htake⟩) hlen β w tmps ⟨hS.size, hS.slots, hS.box, hS.inj, hS.keys, hS.fresh, ?_, ?_, hS.frame, ?_, ?_, ?_, ?_, ?_⟩
    · by_cases e : b = g
      · subst e; rw [hn] at hb; cases hb
      · simp only [if_neg e]; exact hb
    · intro b o hb
      by_cases e : b = g
      · subst e; simp only [if_true, Option.some.injEq] at hb; subst hb; exact hg
      · simp only [if_neg e] at hb; exact hS.ghost b o hb
    · intro j x hj
      simp only [if_neg (hβ j x hj)]; exact hS.gno j x hj
    · intro b o hb
      by_cases e : b = g
      · subst e; rw [hS.gle _ _ hb] at hn; cases hn
      · simp only [if_neg e]; exact hS.gle b o hb
    · intro b hb hni
      have : b ≠ g := by
        rintro rfl
        rcases hin with h1 | h1
        · exact hni h1
        · omega
      simp only [if_neg this]; exact hS.gold b hb hni
    · exact fun l p hl => hS.own l p (ow_drop hl).1
    · intro l p b hl hb
      obtain ⟨h1, h2, h3⟩ := hS.ownB l p b (ow_drop hl).1 hb
      refine ⟨?_, h2, h3⟩
      have : b ≠ g := by
        rintro rfl
        exact hS.ownI l k p _ _ (ow_drop hl).1 ho (ow_drop hl).2 hb rfl
      simp only [if_neg this]; exact h1
    · exact fun l m p q b hl hm => hS.ownI l m p q b (ow_drop hl).1 (ow_drop hm).1
end Go.Proofs.Ytkjahaoobdbffaa
