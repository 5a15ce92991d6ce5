/- The base of this seat's proofs, third part: each operation that is computed on what is known does in the machine just what was computed. -/
import Derived.Test.YtkjahaoobdbffaaB2
namespace Go.Proofs.Ytkjahaoobdbffaa
open Go Go.RowKit

section sound
variable {P : Program} {hE : GH} {w0 : World} {inc : List Nat} {n : Nat} {s : S} {h : GH} {β : Nat → Nat} {w : World} {tmps : Array Value}

def EffOk (P : Program) (s : S) (β : Nat → Nat) (w : World) (tmps : Array Value) (o : Oper) (v : SV1) : Eff → Prop
  | .no => ∃ u, SV1Ok s.nb β v u ∧ ∀ w' : World, (∀ k b, bx k s.boxes = some b → w'.heap[β k]? = w.heap[β k]?) → (execOp (evT tmps) o).run P w' = .ok (.value u) w'
  | .new T cs => ∃ (arr : Array Value) (u : Value), CellsOk s.nb β cs arr.toList ∧ (∀ β' : Nat → Nat, β' s.nb = w.heap.size → SV1Ok (s.nb + 1) β' v u) ∧
      (execOp (evT tmps) o).run P w = .ok (.value u) (w.alloc (.cells arr T))
  | .upd k T cs => ∃ b cs0 arr, bx k s.boxes = some ⟨b, .lit T cs0⟩ ∧ CellsOk s.nb β cs arr.toList ∧ (execOp (evT tmps) o).run P w = .ok .skip (w.setRow (β k) arr)

/-- Filling in the machine is splicing on what is known. -/
theorem foldl_set (new : List Value) : ∀ (k off : Nat) (cells : Array Value), off + k + new.length ≤ cells.size →
    ((new.zipIdx k).foldl (fun cs (x : Value × Nat) => cs.setIfInBounds (off + x.2) x.1) cells).toList = cells.toList.take (off + k) ++ new ++ cells.toList.drop (off + k + new.length) := by
  induction new with
  | nil => intro k off cells hl; simp
  | cons c new ih =>
    intro k off cells hl
    simp only [List.zipIdx_cons, List.foldl_cons]
    rw [ih (k + 1) off (cells.setIfInBounds (off + k) c) (by simp at hl ⊢; omega)]
    simp only [List.length_cons] at hl ⊢
    rw [Array.toList_setIfInBounds]
    have := list_seg_step cells.toList (off + k) c new (by simp; omega)
    rw [show off + (k + 1) = off + k + 1 by omega]
    exact this

theorem fill_ok {N : Nat} {place place' : Nat → Option (Nat × Nat)} (hpl : ∀ i x, place i = some x → place' i = some x) : ∀ (ps : List (Nat × List Cell)) (vs : List (Nat × Value)) (cs : List Cell) (cells : Array Value) (out : List Cell),
    CellsOk N β cs cells.toList → ps.length = vs.length → (∀ (j i : Nat) (c : List Cell), ps[j]? = some (i, c) → ∃ v : Value, vs[j]? = some (i, v) ∧ CellsOk N β c v.cells.toList) → spliceAll place cs ps = some out →
    ∃ arr, Instr.fill place' cells vs = some arr ∧ CellsOk N β out arr.toList := by
  intro ps
  induction ps with
  | nil =>
    intro vs cs cells out hc hl _ hsp
    cases vs with
    | nil => simp [spliceAll] at hsp; subst hsp; exact ⟨cells, rfl, hc⟩
    | cons v vs => simp at hl
  | cons p ps ih =>
    intro vs cs cells out hc hl hp hsp
    cases vs with
    | nil => simp at hl
    | cons x vs =>
      obtain ⟨i, new⟩ := p
      obtain ⟨v, hx, hv⟩ := hp 0 i new (by simp)
      simp at hx; subst hx
      simp only [spliceAll] at hsp
      cases hpi : place i with
      | none => rw [hpi] at hsp; simp at hsp
      | some os =>
        obtain ⟨off, size⟩ := os
        rw [hpi] at hsp
        simp only at hsp
        split at hsp
        · rename_i hb
          simp only [Bool.and_eq_true] at hb
          have h1 := Nat.eq_of_beq_eq_true hb.1
          have h2 := Nat.le_of_ble_eq_true hb.2
          have hlv := hv.length
          have hlc := hc.length
          simp at hlv hlc
          simp only [Instr.fill, hpl _ _ hpi]
          rw [if_neg (by simp; omega)]
          refine ih vs (splice cs off new) _ out ?_ (by simpa using hl) (fun j i c hj => by simpa using hp (j + 1) i c (by simpa using hj)) hsp
          have hf := foldl_set v.cells.toList 0 off cells (by simp; omega)
          have he : (v.cells.zipIdx.foldl (fun cs (x : Value × Nat) => cs.setIfInBounds (off + x.2) x.1) cells).toList = cells.toList.take off ++ v.cells.toList ++ cells.toList.drop (off + v.cells.size) := by
            rw [← Array.foldl_toList, Array.toList_zipIdx]
            simpa using hf
          show CellsOk N β _ (v.cells.zipIdx.foldl (fun cs (x : Value × Nat) => cs.setIfInBounds (off + x.2) x.1) cells).toList
          rw [he]
          unfold splice
          have := ((hc.take off).append hv).append (hc.drop (off + new.length))
          rw [hlv]; exact this
        · simp at hsp

theorem exec_no {o : Oper} {v : SV1} {u : Value} (h1 : SV1Ok s.nb β v u) (h2 : ∀ w' : World, (∀ k b, bx k s.boxes = some b → w'.heap[β k]? = w.heap[β k]?) → (execOp (evT tmps) o).run P w' = .ok (.value u) w') : EffOk P s β w tmps o v .no := ⟨u, h1, h2⟩

theorem map_some {α γ : Type} {f : α → γ} {x : Option α} {y : γ} (h : x.map f = some y) : ∃ a, x = some a ∧ f a = y := by
  cases x <;> simp_all

theorem op_move (hS : Sim hE w0 inc n s h β w tmps) {g : List (Nat × Bool)} (hg : GOk tmps g) {o : Oper} {x : Operand} (ho : o.op = .move x ∨ o.op = .assign x) {v : SV1} {e : Eff}
    (he : ((evS s g x).map fun v => (v, Eff.no)) = some (v, e)) : EffOk P s β w tmps o v e := by
  obtain ⟨a, h1, h2⟩ := map_some he
  simp only [Prod.mk.injEq] at h2
  obtain ⟨rfl, rfl⟩ := h2
  refine exec_no (evS_ok hS hg h1) (fun w' hw' => ?_)
  rcases ho with ho | ho <;> simp [execOp, ho]

theorem op_pick (hS : Sim hE w0 inc n s h β w tmps) {g : List (Nat × Bool)} (hg : GOk tmps g) {o : Oper} {c a b : Operand} (ho : o.op = .pick c a b) {v : SV1} {e : Eff}
    (he : opEval P s g (.pick c a b) = some (v, e)) : EffOk P s β w tmps o v e := by
  cases c with
  | tmp tc =>
    simp only [opEval] at he
    split at he
    · rename_i c hc
      have hcv : tmps.getD tc undef = .bool c := by
        have := evS_atom hS hg hc
        simpa [CellOk, evT, Act.eval] using this
      split at he
      · rename_i x y hx hy
        simp only [Option.some.injEq, Prod.mk.injEq] at he
        obtain ⟨rfl, rfl⟩ := he
        have hev : evT tmps (.tmp tc) = .bool c := hcv
        cases c with
        | true =>
          have h1 := evS_atom hS (hg.cons hcv) hx
          simp only [CellOk] at h1
          refine exec_no (u := .bool x) ?_ (fun w' hw' => by simp [execOp, ho, hev, asBool, h1])
          simp only [SV1Ok, CellOk, Value.bool.injEq]
          split
          · simp [evT, Act.eval] at h1; simp [h1]
          · split <;> simp
        | false =>
          have h1 := evS_atom hS (hg.cons hcv) hy
          simp only [CellOk] at h1
          refine exec_no (u := .bool y) ?_ (fun w' hw' => by simp [execOp, ho, hev, asBool, h1])
          simp only [SV1Ok, CellOk, Value.bool.injEq]
          split
          · simp
          · split
            · simp [evT, Act.eval] at h1; simp [h1]
            · simp
      · simp at he
    · simp at he
  | _ => simp [opEval] at he

theorem op_alloc {o : Oper} {T : TypeId} (ho : o.op = .alloc T) {g : List (Nat × Bool)} {v : SV1} {e : Eff} (he : opEval P s g (.alloc T) = some (v, e)) : EffOk P s β w tmps o v e := by
  simp only [opEval] at he
  split at he
  · rename_i i hi
    split at he
    · rename_i z hz
      simp only [Option.some.injEq, Prod.mk.injEq] at he
      obtain ⟨rfl, rfl⟩ := he
      refine ⟨z.cells, .pointer (some ⟨w.heap.size, 0, none⟩), cellsOfV_ok _ _ z, fun β' hb => ⟨by rw [hb], by omega⟩, ?_⟩
      simp [execOp, ho, Instr.alloc, zeroValue, typeInfo, hi, hz, newVar, newRow]
    · simp at he
  · simp at he

theorem op_box (hS : Sim hE w0 inc n s h β w tmps) {g : List (Nat × Bool)} (hg : GOk tmps g) {o : Oper} {T : TypeId} {x : Operand} (ho : o.op = .box T x) {v : SV1} {e : Eff}
    (he : opEval P s g (.box T x) = some (v, e)) : EffOk P s β w tmps o v e := by
  simp only [opEval] at he
  split at he
  · rename_i u hu
    obtain ⟨cs, h1, h2⟩ := map_some he
    simp only [Prod.mk.injEq] at h2
    obtain ⟨rfl, rfl⟩ := h2
    refine ⟨_, .pointer (some ⟨w.heap.size, 0, none⟩), SV1.cells_ok h1 (evS_ok hS hg hu), fun β' hb => ⟨by rw [hb], by omega⟩, ?_⟩
    simp [execOp, ho, Instr.box, newVar, newRow]
  · simp at he

theorem evParts_ok (hS : Sim hE w0 inc n s h β w tmps) {g : List (Nat × Bool)} (hg : GOk tmps g) : ∀ (l : List (Nat × Operand)) (ps : List (Nat × List Cell)), evParts s g l = some ps →
    ps.length = (l.map fun (i, x) => (i, evT tmps x)).length ∧ ∀ (j i : Nat) (c : List Cell), ps[j]? = some (i, c) → ∃ v : Value, (l.map fun (i, x) => (i, evT tmps x))[j]? = some (i, v) ∧ CellsOk s.nb β c v.cells.toList := by
  intro l
  induction l with
  | nil => intro ps hp; simp [evParts] at hp; subst hp; simp
  | cons y l ih =>
    obtain ⟨i, x⟩ := y
    intro ps hp
    simp only [evParts] at hp
    split at hp
    · simp at hp
    · rename_i v hv
      split at hp
      · rename_i cs r h1 h2
        simp only [Option.some.injEq] at hp
        subst hp
        obtain ⟨h3, h4⟩ := ih r h2
        refine ⟨by simpa using h3, fun j i c hj => ?_⟩
        cases j with
        | zero =>
          simp at hj
          obtain ⟨rfl, rfl⟩ := hj
          exact ⟨_, by simp, SV1.cells_ok h1 (evS_ok hS hg hv)⟩
        | succ j => simpa using h4 j i c (by simpa using hj)
      · simp at hp

theorem places_ok : ∀ (fs : List Field) (pl : List (Nat × Nat)) (w : World), places P fs = some pl → (fs.mapM fun f => (Prod.mk f.offset <$> sizeOf f.type : Sem (Nat × Nat))).run P w = .ok pl w := by
  intro fs
  induction fs with
  | nil => intro pl w hp; simp [places] at hp; subst hp; simp
  | cons f fs ih =>
    intro pl w hp
    simp only [places] at hp
    split at hp
    · rename_i m r h1 h2
      simp only [Option.some.injEq] at hp
      subst hp
      have := ih r w h2
      simp [List.mapM_cons, run_sizeP h1, this]
    · simp at hp

theorem op_build (hS : Sim hE w0 inc n s h β w tmps) {g : List (Nat × Bool)} (hg : GOk tmps g) {o : Oper} {T : TypeId} {parts : Array (Nat × Operand)} (ho : o.op = .build T parts) {v : SV1} {e : Eff}
    (he : opEval P s g (.build T parts) = some (v, e)) : EffOk P s β w tmps o v e := by
  simp only [opEval] at he
  split at he
  · rename_i i fs ps hi hu hps
    split at he
    · rename_i z pl hz hpl
      obtain ⟨cs, h1, h2⟩ := map_some he
      simp only [Prod.mk.injEq] at h2
      obtain ⟨rfl, rfl⟩ := h2
      obtain ⟨h3, h4⟩ := evParts_ok hS hg _ _ hps
      obtain ⟨arr, h5, h6⟩ := fill_ok (place' := fun j => pl[j]?) (fun _ _ h => h) ps _ _ z.cells cs (cellsOfV_ok s.nb β z) h3 h4 h1
      refine exec_no (u := .agg arr) ⟨arr, rfl, h6⟩ (fun w' hw' => ?_)
      have hm := places_ok fs.toList pl w' hpl
      have hm' : (fs.mapM fun f => (Prod.mk f.offset <$> sizeOf f.type : Sem (Nat × Nat))).run P w' = .ok pl.toArray w' := by
        rw [Array.mapM_eq_mapM_toList, Sem.run_map, hm]; rfl
      simp [execOp, ho, Instr.build, zeroValue, typeInfo, hi, hz, run_underlying hu, hm', h5]
    · simp at he
  · simp at he
end sound
end Go.Proofs.Ytkjahaoobdbffaa
