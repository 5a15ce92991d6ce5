/- The base of this seat's proofs, first part: what is known of slots and blocks while a Go function runs, as data that Lean's kernel can compute with. -/
import Derived.WalkKit
import Derived.KernelRfl
import Derived.Below
import Derived.OrdersHeld
import Derived.Deep.Quiet
import Derived.Maps.AppendAt
namespace Go.Proofs.Ytkjahaoobdbffaa
open Go Go.RowKit

/-- What is known of the value of one cell. -/
inductive Cell where
  | any
  | raw (v : Value)
  | int (k : IntKind) (n : Int)
  | bool (b : Bool)
  | str (s : ByteArray)
  | ptr (k off : Nat)
  | sl (v : Value) (n : Nat)
  | bsl (k off len cap : Nat)
  | clo (f : FuncId) (fst : Bool) (k off : Nat)

inductive SV1 where
  | atom (c : Cell)
  | agg (cs : List Cell)

inductive SV where
  | one (v : SV1)
  | tup (vs : List SV1)
  | gd (t : Nat) (want : Bool) (v : SV1)

inductive BoxB where
  | lit (T : TypeId) (cs : List Cell)
  | obj (o : Obj)

structure Box where
  inc : Option Nat
  body : BoxB

/-- A slice of the call's own: the value, its row of cells. -/
structure Own where
  e : TypeId
  sz : Nat
  v : Value
  n : Nat
  xs : List Value

structure S where
  slots : List (Nat × SV)
  boxes : List (Nat × Box)
  nb : Nat
  owns : List (Nat × Own)

/-- The memory that nobody writes any more. -/
abbrev GH := Nat → Option Obj

section ok
variable (N : Nat) (β : Nat → Nat)

def CellOk : Cell → Value → Prop
  | .any, _ => True
  | .raw u, v => v = u ∧ u.oneCell' = true
  | .int k n, v => v = .int k n
  | .bool b, v => v = .bool b
  | .str s, v => v = .string s
  | .ptr k off, v => v = .pointer (some ⟨β k, off, none⟩) ∧ k < N
  | .sl u n, v => v = u ∧ ∃ a c, u = .slice a n c
  | .bsl k off len cap, v => v = .slice (some ⟨β k, off, none⟩) len cap ∧ k < N
  | .clo f fst k off, v => (v = if fst then .func (.func f) #[.pointer (some ⟨β k, off, none⟩)] #[] else .func (.func f) #[] #[.pointer (some ⟨β k, off, none⟩)]) ∧ k < N

def CellsOk : List Cell → List Value → Prop
  | [], [] => True
  | c :: cs, v :: vs => CellOk N β c v ∧ CellsOk cs vs
  | _, _ => False

def SV1Ok : SV1 → Value → Prop
  | .atom c, v => CellOk N β c v
  | .agg cs, v => ∃ arr : Array Value, v = .agg arr ∧ CellsOk N β cs arr.toList

def SV1sOk : List SV1 → List Value → Prop
  | [], [] => True
  | c :: cs, v :: vs => SV1Ok N β c v ∧ SV1sOk cs vs
  | _, _ => False

def SVOk (tmps : Array Value) : SV → Value → Prop
  | .one s, v => SV1Ok N β s v
  | .tup vs, v => ∃ arr : Array Value, v = .tuple arr ∧ SV1sOk N β vs arr.toList
  | .gd t want s, v => (tmps.getD t undef = .bool want ∧ SV1Ok N β s v) ∨ (tmps.getD t undef ≠ .bool want ∧ v = undef)

def BoxOk (w : World) (b : Nat) : BoxB → Prop
  | .lit T cs => ∃ arr : Array Value, w.heap[b]? = some (.cells arr T (0, 0)) ∧ CellsOk N β cs arr.toList
  | .obj o => w.heap[b]? = some o
end ok

/-- Is d among the keys? -/
def hasKey (d : Nat) : List (Nat × SV) → Bool
  | [] => false
  | (x, _) :: l => Nat.beq x d || hasKey d l

def anyS : SV := .one (.atom .any)

/-- What is known of a slot: the newest row; a guarded row whose guard has been written since tells nothing. -/
def lkAux (t : Nat) (newer : List Nat) : List (Nat × SV) → SV
  | [] => anyS
  | (x, sv) :: l =>
    if Nat.beq x t then
      match sv with
      | .gd g _ _ => if newer.any (Nat.beq g) then anyS else sv
      | _ => sv
    else lkAux t (x :: newer) l

def lk (t : Nat) (l : List (Nat × SV)) : SV := lkAux t [] l

def bx (k : Nat) : List (Nat × Box) → Option Box
  | [] => none
  | (x, b) :: l => if Nat.beq x k then some b else bx k l

def ow (k : Nat) : List (Nat × Own) → Option Own
  | [] => none
  | (x, o) :: l => if Nat.beq x k then some o else ow k l

/-- How memory stands to what it was: nothing that was there has turned, but for the blocks named. -/
structure Frm (inc : List Nat) (w w' : World) : Prop where
  os : w'.os = w.os
  tape : w'.tape = w.tape
  output : w'.output = w.output
  size : w.heap.size ≤ w'.heap.size
  block : ∀ b, b < w.heap.size → b ∉ inc → w'.heap[b]? = w.heap[b]?

structure Sim (hE : GH) (w0 : World) (inc : List Nat) (n : Nat) (s : S) (h : GH) (β : Nat → Nat) (w : World) (tmps : Array Value) : Prop where
  size : tmps.size = n
  slots : ∀ t, SVOk s.nb β tmps (lk t s.slots) (tmps.getD t undef)
  box : ∀ k b, bx k s.boxes = some b → BoxOk s.nb β w (β k) b.body
  inj : ∀ k l b c, bx k s.boxes = some b → bx l s.boxes = some c → k ≠ l → β k ≠ β l
  keys : ∀ k b, bx k s.boxes = some b → k < s.nb
  fresh : ∀ k b, bx k s.boxes = some b → match b.inc with
    | some m => β k = m ∧ m ∈ inc
    | none => w0.heap.size ≤ β k
  ghost : ∀ b o, h b = some o → w.heap[b]? = some o
  gno : ∀ k b, bx k s.boxes = some b → h (β k) = none
  frame : Frm inc w0 w
  gle : ∀ b o, hE b = some o → h b = some o
  gold : ∀ b, b < w0.heap.size → b ∉ inc → h b = hE b
  own : ∀ k o, ow k s.owns = some o → w.ownsRow 0 o.e o.sz o.v o.n o.xs
  ownB : ∀ k o b, ow k s.owns = some o → o.v.ownBlock = some b → h b = none ∧ (∀ j x, bx j s.boxes = some x → β j ≠ b) ∧ (b ∈ inc ∨ w0.heap.size ≤ b)
  ownI : ∀ k l o p b, ow k s.owns = some o → ow l s.owns = some p → k ≠ l → o.v.ownBlock = some b → p.v.ownBlock ≠ some b

theorem Frm.refl (inc : List Nat) (w : World) : Frm inc w w := ⟨rfl, rfl, rfl, Nat.le_refl _, fun _ _ _ => rfl⟩
theorem Frm.trans {inc : List Nat} {a b c : World} (h : Frm inc a b) (k : Frm inc b c) : Frm inc a c :=
  ⟨k.os.trans h.os, k.tape.trans h.tape, k.output.trans h.output, Nat.le_trans h.size k.size, fun i hi hn => (k.block i (Nat.lt_of_lt_of_le hi h.size) hn).trans (h.block i hi hn)⟩
theorem Frm.below {w w' : World} (h : Frm [] w w') : Below w.heap.size w w' := ⟨h.os, h.tape, h.output, h.size, fun k hk => h.block k hk (by simp)⟩
theorem Frm.of_below {w w' : World} (h : Below w.heap.size w w') (inc : List Nat) : Frm inc w w' := ⟨h.os, h.tape, h.output, h.size, fun k hk _ => h.block k hk⟩
theorem Frm.of_heap {inc : List Nat} {a w w' : World} (h : Frm inc a w) (e1 : w'.heap = w.heap) (e2 : w'.os = w.os) (e3 : w'.tape = w.tape) (e4 : w'.output = w.output) : Frm inc a w' :=
  ⟨e2.trans h.os, e3.trans h.tape, e4.trans h.output, by rw [e1]; exact h.size, fun b hb hn => by rw [e1]; exact h.block b hb hn⟩

section lemmas
variable {N : Nat} {β : Nat → Nat}

theorem CellOk.oneCell {c : Cell} {v : Value} (h : CellOk N β c v) (hc : c ≠ .any) : v.oneCell' = true := by
  cases c <;> simp only [CellOk] at h
  case any => exact absurd rfl hc
  case raw u => obtain ⟨rfl, h⟩ := h; exact h
  case sl u n => obtain ⟨rfl, a, c, rfl⟩ := h; rfl
  case clo f fst k off => obtain ⟨h, _⟩ := h; subst h; cases fst <;> rfl
  case ptr k off => obtain ⟨h, _⟩ := h; subst h; rfl
  case bsl k off l c => obtain ⟨h, _⟩ := h; subst h; rfl
  all_goals (subst h; rfl)

theorem CellsOk.length {cs : List Cell} {vs : List Value} (h : CellsOk N β cs vs) : vs.length = cs.length := by
  induction cs generalizing vs with
  | nil => cases vs <;> simp_all [CellsOk]
  | cons c cs ih => cases vs with
    | nil => simp [CellsOk] at h
    | cons v vs => simp [ih h.2]

theorem CellsOk.get {cs : List Cell} {vs : List Value} (h : CellsOk N β cs vs) {i : Nat} {c : Cell} (hi : cs[i]? = some c) : ∃ v, vs[i]? = some v ∧ CellOk N β c v := by
  induction cs generalizing vs i with
  | nil => simp at hi
  | cons x cs ih => cases vs with
    | nil => simp [CellsOk] at h
    | cons v vs =>
      cases i with
      | zero => simp at hi; subst hi; exact ⟨v, rfl, h.1⟩
      | succ i => simp at hi; simpa using ih h.2 hi

theorem CellsOk.append {cs ds : List Cell} {vs us : List Value} (h : CellsOk N β cs vs) (g : CellsOk N β ds us) : CellsOk N β (cs ++ ds) (vs ++ us) := by
  induction cs generalizing vs with
  | nil => cases vs <;> simp_all [CellsOk]
  | cons x cs ih => cases vs with
    | nil => simp [CellsOk] at h
    | cons v vs => exact ⟨h.1, ih h.2⟩

theorem CellsOk.drop {cs : List Cell} {vs : List Value} (h : CellsOk N β cs vs) (n : Nat) : CellsOk N β (cs.drop n) (vs.drop n) := by
  induction n generalizing cs vs with
  | zero => simpa using h
  | succ n ih => cases cs <;> cases vs <;> simp_all [CellsOk]

theorem CellsOk.take {cs : List Cell} {vs : List Value} (h : CellsOk N β cs vs) (n : Nat) : CellsOk N β (cs.take n) (vs.take n) := by
  induction n generalizing cs vs with
  | zero => simp [CellsOk]
  | succ n ih => cases cs <;> cases vs <;> simp_all [CellsOk]

theorem CellsOk.replicate {c : Cell} {v : Value} (h : CellOk N β c v) (n : Nat) : CellsOk N β (List.replicate n c) (List.replicate n v) := by
  induction n with
  | zero => simp [CellsOk]
  | succ n ih => exact ⟨h, ih⟩

/-- Another naming of the blocks that is alike below N serves as well. -/
theorem CellOk.rename {N' : Nat} {β' : Nat → Nat} (hN : N ≤ N') (hb : ∀ k, k < N → β' k = β k) {c : Cell} {v : Value} (h : CellOk N β c v) : CellOk N' β' c v := by
  cases c <;> simp only [CellOk] at h ⊢ <;> try exact h
  case ptr k off => exact ⟨by rw [hb k h.2]; exact h.1, Nat.lt_of_lt_of_le h.2 hN⟩
  case bsl k off l c => exact ⟨by rw [hb k h.2]; exact h.1, Nat.lt_of_lt_of_le h.2 hN⟩
  case clo f fst k off => exact ⟨by rw [hb k h.2]; exact h.1, Nat.lt_of_lt_of_le h.2 hN⟩

theorem CellsOk.rename {N' : Nat} {β' : Nat → Nat} (hN : N ≤ N') (hb : ∀ k, k < N → β' k = β k) {cs : List Cell} {vs : List Value} (h : CellsOk N β cs vs) : CellsOk N' β' cs vs := by
  induction cs generalizing vs with
  | nil => cases vs <;> simp_all [CellsOk]
  | cons c cs ih => cases vs with
    | nil => simp [CellsOk] at h
    | cons v vs => exact ⟨h.1.rename hN hb, ih h.2⟩

theorem SV1Ok.rename {N' : Nat} {β' : Nat → Nat} (hN : N ≤ N') (hb : ∀ k, k < N → β' k = β k) {c : SV1} {v : Value} (h : SV1Ok N β c v) : SV1Ok N' β' c v := by
  cases c with
  | atom c => exact CellOk.rename hN hb h
  | agg cs => obtain ⟨arr, rfl, h⟩ := h; exact ⟨arr, rfl, h.rename hN hb⟩

theorem SV1sOk.rename {N' : Nat} {β' : Nat → Nat} (hN : N ≤ N') (hb : ∀ k, k < N → β' k = β k) {cs : List SV1} {vs : List Value} (h : SV1sOk N β cs vs) : SV1sOk N' β' cs vs := by
  induction cs generalizing vs with
  | nil => cases vs <;> simp_all [SV1sOk]
  | cons c cs ih => cases vs with
    | nil => simp [SV1sOk] at h
    | cons v vs => exact ⟨h.1.rename hN hb, ih h.2⟩

theorem SVOk.rename {N' : Nat} {β' : Nat → Nat} (hN : N ≤ N') (hb : ∀ k, k < N → β' k = β k) {tmps : Array Value} {c : SV} {v : Value} (h : SVOk N β tmps c v) : SVOk N' β' tmps c v := by
  cases c with
  | one c => exact SV1Ok.rename hN hb h
  | tup cs => obtain ⟨arr, rfl, h⟩ := h; exact ⟨arr, rfl, h.rename hN hb⟩
  | gd t want c => exact h.imp (fun ⟨a, b⟩ => ⟨a, b.rename hN hb⟩) id

theorem BoxOk.rename {N' : Nat} {β' : Nat → Nat} (hN : N ≤ N') (hb : ∀ k, k < N → β' k = β k) {w : World} {n : Nat} {b : BoxB} (h : BoxOk N β w n b) : BoxOk N' β' w n b := by
  cases b with
  | lit T cs => obtain ⟨arr, e, h⟩ := h; exact ⟨arr, e, h.rename hN hb⟩
  | obj o => exact h

theorem BoxOk.of_block {w w' : World} {n : Nat} {b : BoxB} (h : BoxOk N β w n b) (e : w'.heap[n]? = w.heap[n]?) : BoxOk N β w' n b := by
  cases b with
  | lit T cs => obtain ⟨arr, e', h⟩ := h; exact ⟨arr, e.trans e', h⟩
  | obj o => exact e.trans h

theorem BoxOk.lt {w : World} {n : Nat} {b : BoxB} (h : BoxOk N β w n b) : n < w.heap.size := by
  cases b with
  | lit T cs => obtain ⟨arr, e', h⟩ := h; exact (Array.getElem?_eq_some_iff.1 e').1
  | obj o => exact (Array.getElem?_eq_some_iff.1 h).1

/-- A row stays where its block does. -/
theorem ownsRow_of_block {w w' : World} {base : Nat} {e : TypeId} {sz : Nat} {v : Value} {n : Nat} {xs : List Value} (h : w.ownsRow base e sz v n xs) (hb : ∀ b, v.ownBlock = some b → w'.heap[b]? = w.heap[b]?) : w'.ownsRow base e sz v n xs := by
  obtain ⟨h1, h2⟩ := h
  refine ⟨h1, h2.imp id ?_⟩
  rintro ⟨g, cap, cur, rfl, a, b, c, d, e1, e2⟩
  exact ⟨g, cap, cur, rfl, a, (hb g rfl).trans b, c, d, e1, e2⟩

theorem ownsRow_lt {w : World} {base : Nat} {e : TypeId} {sz : Nat} {v : Value} {n : Nat} {xs : List Value} (h : w.ownsRow base e sz v n xs) {b : Nat} (hb : v.ownBlock = some b) : b < w.heap.size := (h.lt b hb).2

end lemmas
end Go.Proofs.Ytkjahaoobdbffaa
