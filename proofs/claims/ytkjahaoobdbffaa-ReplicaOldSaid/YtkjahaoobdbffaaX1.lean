/- Merged: B1 B2 B3 B4 B5 B6 -/
import Derived.WalkKit
import Derived.KernelRfl
import Derived.Below
import Derived.OrdersHeld
import Derived.Deep.Quiet
import Derived.Maps.AppendAt
import Derived.Laws.CopyRow

/- The base of this seat's proofs, first part: what is known of slots and blocks while a Go function runs, as data that Lean's kernel can compute with. -/
namespace Go.Proofs.Ytkjahaoobdbffaa
open Go Go.RowKit

/-- What is known of the value of one cell. -/
inductive Cell where
  | any
  | raw (v : Value)
  | int (k : IntKind) (n : Int)
  | bool (b : Bool)
  | str (s : ByteArray)
  | ptr (k off : Nat)
  | sl (v : Value) (n : Nat)
  | bsl (k off len cap : Nat)
  | clo (f : FuncId) (fst : Bool) (k off : Nat)

inductive SV1 where
  | atom (c : Cell)
  | agg (cs : List Cell)

inductive SV where
  | one (v : SV1)
  | tup (vs : List SV1)
  | gd (t : Nat) (want : Bool) (v : SV1)

inductive BoxB where
  | lit (T : TypeId) (cs : List Cell)
  | obj (o : Obj)

structure Box where
  inc : Option Nat
  body : BoxB

/-- A slice of the call's own: the value, its row of cells. -/
structure Own where
  e : TypeId
  sz : Nat
  v : Value
  n : Nat
  xs : List Value

structure S where
  slots : List (Nat × SV)
  boxes : List (Nat × Box)
  nb : Nat
  owns : List (Nat × Own)

/-- The memory that nobody writes any more. -/
abbrev GH := Nat → Option Obj

section ok
variable (N : Nat) (β : Nat → Nat)

def CellOk : Cell → Value → Prop
  | .any, _ => True
  | .raw u, v => v = u ∧ u.oneCell' = true
  | .int k n, v => v = .int k n
  | .bool b, v => v = .bool b
  | .str s, v => v = .string s
  | .ptr k off, v => v = .pointer (some ⟨β k, off, none⟩) ∧ k < N
  | .sl u n, v => v = u ∧ ∃ a c, u = .slice a n c
  | .bsl k off len cap, v => v = .slice (some ⟨β k, off, none⟩) len cap ∧ k < N
  | .clo f fst k off, v => (v = if fst then .func (.func f) #[.pointer (some ⟨β k, off, none⟩)] #[] else .func (.func f) #[] #[.pointer (some ⟨β k, off, none⟩)]) ∧ k < N

def CellsOk : List Cell → List Value → Prop
  | [], [] => True
  | c :: cs, v :: vs => CellOk N β c v ∧ CellsOk cs vs
  | _, _ => False

def SV1Ok : SV1 → Value → Prop
  | .atom c, v => CellOk N β c v
  | .agg cs, v => ∃ arr : Array Value, v = .agg arr ∧ CellsOk N β cs arr.toList

def SV1sOk : List SV1 → List Value → Prop
  | [], [] => True
  | c :: cs, v :: vs => SV1Ok N β c v ∧ SV1sOk cs vs
  | _, _ => False

def SVOk (tmps : Array Value) : SV → Value → Prop
  | .one s, v => SV1Ok N β s v
  | .tup vs, v => ∃ arr : Array Value, v = .tuple arr ∧ SV1sOk N β vs arr.toList
  | .gd t want s, v => (tmps.getD t undef = .bool want ∧ SV1Ok N β s v) ∨ (tmps.getD t undef ≠ .bool want ∧ v = undef)

def BoxOk (w : World) (b : Nat) : BoxB → Prop
  | .lit T cs => ∃ arr : Array Value, w.heap[b]? = some (.cells arr T (0, 0)) ∧ CellsOk N β cs arr.toList
  | .obj o => w.heap[b]? = some o
end ok

/-- Is d among the keys? -/
def hasKey (d : Nat) : List (Nat × SV) → Bool
  | [] => false
  | (x, _) :: l => Nat.beq x d || hasKey d l

def anyS : SV := .one (.atom .any)

/-- What is known of a slot: the newest row; a guarded row whose guard has been written since tells nothing. -/
def lkAux (t : Nat) (newer : List Nat) : List (Nat × SV) → SV
  | [] => anyS
  | (x, sv) :: l =>
    if Nat.beq x t then
      match sv with
      | .gd g _ _ => if newer.any (Nat.beq g) then anyS else sv
      | _ => sv
    else lkAux t (x :: newer) l

def lk (t : Nat) (l : List (Nat × SV)) : SV := lkAux t [] l

def bx (k : Nat) : List (Nat × Box) → Option Box
  | [] => none
  | (x, b) :: l => if Nat.beq x k then some b else bx k l

def ow (k : Nat) : List (Nat × Own) → Option Own
  | [] => none
  | (x, o) :: l => if Nat.beq x k then some o else ow k l

/-- How memory stands to what it was: nothing that was there has turned, but for the blocks named. -/
structure Frm (inc : List Nat) (w w' : World) : Prop where
  os : w'.os = w.os
  tape : w'.tape = w.tape
  output : w'.output = w.output
  size : w.heap.size ≤ w'.heap.size
  block : ∀ b, b < w.heap.size → b ∉ inc → w'.heap[b]? = w.heap[b]?

structure Sim (hE : GH) (w0 : World) (inc : List Nat) (n : Nat) (s : S) (h : GH) (β : Nat → Nat) (w : World) (tmps : Array Value) : Prop where
  size : tmps.size = n
  slots : ∀ t, SVOk s.nb β tmps (lk t s.slots) (tmps.getD t undef)
  box : ∀ k b, bx k s.boxes = some b → BoxOk s.nb β w (β k) b.body
  inj : ∀ k l b c, bx k s.boxes = some b → bx l s.boxes = some c → k ≠ l → β k ≠ β l
  keys : ∀ k b, bx k s.boxes = some b → k < s.nb
  fresh : ∀ k b, bx k s.boxes = some b → match b.inc with
    | some m => β k = m ∧ (m ∈ inc ∨ w0.heap.size ≤ m)
    | none => w0.heap.size ≤ β k
  ghost : ∀ b o, h b = some o → w.heap[b]? = some o
  gno : ∀ k b, bx k s.boxes = some b → h (β k) = none
  frame : Frm inc w0 w
  gle : ∀ b o, hE b = some o → h b = some o
  gold : ∀ b, b < w0.heap.size → b ∉ inc → h b = hE b
  own : ∀ k o, ow k s.owns = some o → w.ownsRow 0 o.e o.sz o.v o.n o.xs
  ownB : ∀ k o b, ow k s.owns = some o → o.v.ownBlock = some b → h b = none ∧ (∀ j x, bx j s.boxes = some x → β j ≠ b) ∧ (b ∈ inc ∨ w0.heap.size ≤ b)
  ownI : ∀ k l o p b, ow k s.owns = some o → ow l s.owns = some p → k ≠ l → o.v.ownBlock = some b → p.v.ownBlock ≠ some b

theorem Frm.refl (inc : List Nat) (w : World) : Frm inc w w := ⟨rfl, rfl, rfl, Nat.le_refl _, fun _ _ _ => rfl⟩
theorem Frm.trans {inc : List Nat} {a b c : World} (h : Frm inc a b) (k : Frm inc b c) : Frm inc a c :=
  ⟨k.os.trans h.os, k.tape.trans h.tape, k.output.trans h.output, Nat.le_trans h.size k.size, fun i hi hn => (k.block i (Nat.lt_of_lt_of_le hi h.size) hn).trans (h.block i hi hn)⟩
theorem Frm.below {w w' : World} (h : Frm [] w w') : Below w.heap.size w w' := ⟨h.os, h.tape, h.output, h.size, fun k hk => h.block k hk (by simp)⟩
theorem Frm.of_below {w w' : World} (h : Below w.heap.size w w') (inc : List Nat) : Frm inc w w' := ⟨h.os, h.tape, h.output, h.size, fun k hk _ => h.block k hk⟩
theorem Frm.of_heap {inc : List Nat} {a w w' : World} (h : Frm inc a w) (e1 : w'.heap = w.heap) (e2 : w'.os = w.os) (e3 : w'.tape = w.tape) (e4 : w'.output = w.output) : Frm inc a w' :=
  ⟨e2.trans h.os, e3.trans h.tape, e4.trans h.output, by rw [e1]; exact h.size, fun b hb hn => by rw [e1]; exact h.block b hb hn⟩

section lemmas
variable {N : Nat} {β : Nat → Nat}

theorem CellOk.oneCell {c : Cell} {v : Value} (h : CellOk N β c v) (hc : c ≠ .any) : v.oneCell' = true := by
  cases c <;> simp only [CellOk] at h
  case any => exact absurd rfl hc
  case raw u => obtain ⟨rfl, h⟩ := h; exact h
  case sl u n => obtain ⟨rfl, a, c, rfl⟩ := h; rfl
  case clo f fst k off => obtain ⟨h, _⟩ := h; subst h; cases fst <;> rfl
  case ptr k off => obtain ⟨h, _⟩ := h; subst h; rfl
  case bsl k off l c => obtain ⟨h, _⟩ := h; subst h; rfl
  all_goals (subst h; rfl)

theorem CellsOk.length {cs : List Cell} {vs : List Value} (h : CellsOk N β cs vs) : vs.length = cs.length := by
  induction cs generalizing vs with
  | nil => cases vs <;> simp_all [CellsOk]
  | cons c cs ih => cases vs with
    | nil => simp [CellsOk] at h
    | cons v vs => simp [ih h.2]

theorem CellsOk.get {cs : List Cell} {vs : List Value} (h : CellsOk N β cs vs) {i : Nat} {c : Cell} (hi : cs[i]? = some c) : ∃ v, vs[i]? = some v ∧ CellOk N β c v := by
  induction cs generalizing vs i with
  | nil => simp at hi
  | cons x cs ih => cases vs with
    | nil => simp [CellsOk] at h
    | cons v vs =>
      cases i with
      | zero => simp at hi; subst hi; exact ⟨v, rfl, h.1⟩
      | succ i => simp at hi; simpa using ih h.2 hi

theorem CellsOk.append {cs ds : List Cell} {vs us : List Value} (h : CellsOk N β cs vs) (g : CellsOk N β ds us) : CellsOk N β (cs ++ ds) (vs ++ us) := by
  induction cs generalizing vs with
  | nil => cases vs <;> simp_all [CellsOk]
  | cons x cs ih => cases vs with
    | nil => simp [CellsOk] at h
    | cons v vs => exact ⟨h.1, ih h.2⟩

theorem CellsOk.drop {cs : List Cell} {vs : List Value} (h : CellsOk N β cs vs) (n : Nat) : CellsOk N β (cs.drop n) (vs.drop n) := by
  induction n generalizing cs vs with
  | zero => simpa using h
  | succ n ih => cases cs <;> cases vs <;> simp_all [CellsOk]

theorem CellsOk.take {cs : List Cell} {vs : List Value} (h : CellsOk N β cs vs) (n : Nat) : CellsOk N β (cs.take n) (vs.take n) := by
  induction n generalizing cs vs with
  | zero => simp [CellsOk]
  | succ n ih => cases cs <;> cases vs <;> simp_all [CellsOk]

theorem CellsOk.replicate {c : Cell} {v : Value} (h : CellOk N β c v) (n : Nat) : CellsOk N β (List.replicate n c) (List.replicate n v) := by
  induction n with
  | zero => simp [CellsOk]
  | succ n ih => exact ⟨h, ih⟩

/-- Another naming of the blocks that is alike below N serves as well. -/
theorem CellOk.rename {N' : Nat} {β' : Nat → Nat} (hN : N ≤ N') (hb : ∀ k, k < N → β' k = β k) {c : Cell} {v : Value} (h : CellOk N β c v) : CellOk N' β' c v := by
  cases c <;> simp only [CellOk] at h ⊢ <;> try exact h
  case ptr k off => exact ⟨by rw [hb k h.2]; exact h.1, Nat.lt_of_lt_of_le h.2 hN⟩
  case bsl k off l c => exact ⟨by rw [hb k h.2]; exact h.1, Nat.lt_of_lt_of_le h.2 hN⟩
  case clo f fst k off => exact ⟨by rw [hb k h.2]; exact h.1, Nat.lt_of_lt_of_le h.2 hN⟩

theorem CellsOk.rename {N' : Nat} {β' : Nat → Nat} (hN : N ≤ N') (hb : ∀ k, k < N → β' k = β k) {cs : List Cell} {vs : List Value} (h : CellsOk N β cs vs) : CellsOk N' β' cs vs := by
  induction cs generalizing vs with
  | nil => cases vs <;> simp_all [CellsOk]
  | cons c cs ih => cases vs with
    | nil => simp [CellsOk] at h
    | cons v vs => exact ⟨h.1.rename hN hb, ih h.2⟩

theorem SV1Ok.rename {N' : Nat} {β' : Nat → Nat} (hN : N ≤ N') (hb : ∀ k, k < N → β' k = β k) {c : SV1} {v : Value} (h : SV1Ok N β c v) : SV1Ok N' β' c v := by
  cases c with
  | atom c => exact CellOk.rename hN hb h
  | agg cs => obtain ⟨arr, rfl, h⟩ := h; exact ⟨arr, rfl, h.rename hN hb⟩

theorem SV1sOk.rename {N' : Nat} {β' : Nat → Nat} (hN : N ≤ N') (hb : ∀ k, k < N → β' k = β k) {cs : List SV1} {vs : List Value} (h : SV1sOk N β cs vs) : SV1sOk N' β' cs vs := by
  induction cs generalizing vs with
  | nil => cases vs <;> simp_all [SV1sOk]
  | cons c cs ih => cases vs with
    | nil => simp [SV1sOk] at h
    | cons v vs => exact ⟨h.1.rename hN hb, ih h.2⟩

theorem SVOk.rename {N' : Nat} {β' : Nat → Nat} (hN : N ≤ N') (hb : ∀ k, k < N → β' k = β k) {tmps : Array Value} {c : SV} {v : Value} (h : SVOk N β tmps c v) : SVOk N' β' tmps c v := by
  cases c with
  | one c => exact SV1Ok.rename hN hb h
  | tup cs => obtain ⟨arr, rfl, h⟩ := h; exact ⟨arr, rfl, h.rename hN hb⟩
  | gd t want c => exact h.imp (fun ⟨a, b⟩ => ⟨a, b.rename hN hb⟩) id

theorem BoxOk.rename {N' : Nat} {β' : Nat → Nat} (hN : N ≤ N') (hb : ∀ k, k < N → β' k = β k) {w : World} {n : Nat} {b : BoxB} (h : BoxOk N β w n b) : BoxOk N' β' w n b := by
  cases b with
  | lit T cs => obtain ⟨arr, e, h⟩ := h; exact ⟨arr, e, h.rename hN hb⟩
  | obj o => exact h

theorem BoxOk.of_block {w w' : World} {n : Nat} {b : BoxB} (h : BoxOk N β w n b) (e : w'.heap[n]? = w.heap[n]?) : BoxOk N β w' n b := by
  cases b with
  | lit T cs => obtain ⟨arr, e', h⟩ := h; exact ⟨arr, e.trans e', h⟩
  | obj o => exact e.trans h

theorem BoxOk.lt {w : World} {n : Nat} {b : BoxB} (h : BoxOk N β w n b) : n < w.heap.size := by
  cases b with
  | lit T cs => obtain ⟨arr, e', h⟩ := h; exact (Array.getElem?_eq_some_iff.1 e').1
  | obj o => exact (Array.getElem?_eq_some_iff.1 h).1

/-- A row stays where its block does. -/
theorem ownsRow_of_block {w w' : World} {base : Nat} {e : TypeId} {sz : Nat} {v : Value} {n : Nat} {xs : List Value} (h : w.ownsRow base e sz v n xs) (hb : ∀ b, v.ownBlock = some b → w'.heap[b]? = w.heap[b]?) : w'.ownsRow base e sz v n xs := by
  obtain ⟨h1, h2⟩ := h
  refine ⟨h1, h2.imp id ?_⟩
  rintro ⟨g, cap, cur, rfl, a, b, c, d, e1, e2⟩
  exact ⟨g, cap, cur, rfl, a, (hb g rfl).trans b, c, d, e1, e2⟩

theorem ownsRow_lt {w : World} {base : Nat} {e : TypeId} {sz : Nat} {v : Value} {n : Nat} {xs : List Value} (h : w.ownsRow base e sz v n xs) {b : Nat} (hb : v.ownBlock = some b) : b < w.heap.size := (h.lt b hb).2

end lemmas
end Go.Proofs.Ytkjahaoobdbffaa

/- The base of this seat's proofs, second part: one operation as a computation on what is known, and that the machine does just that. -/
namespace Go.Proofs.Ytkjahaoobdbffaa
open Go Go.RowKit

def Cell.ofV : Value → Cell
  | .int k n => .int k n
  | .bool b => .bool b
  | .string s => .str s
  | .agg _ => .any
  | .tuple _ => .any
  | .slice a n c => .sl (.slice a n c) n
  | .pointer a => .raw (.pointer a)
  | .map a => .raw (.map a)
  | .nilFunc => .raw .nilFunc
  | .func f a b => .raw (.func f a b)
  | .nilIface => .raw .nilIface
  | .iface t v => .raw (.iface t v)
  | .chan r => .raw (.chan r)
  | .float k b => .raw (.float k b)
  | .complex k a b => .raw (.complex k a b)

def cellsOfV : Value → List Cell
  | .agg arr => arr.toList.map Cell.ofV
  | v => [Cell.ofV v]

def SV1.ofV : Value → SV1
  | .agg arr => .agg (arr.toList.map Cell.ofV)
  | v => .atom (Cell.ofV v)

theorem cellOfV_ok (N : Nat) (β : Nat → Nat) (v : Value) : CellOk N β (Cell.ofV v) v := by
  cases v <;> simp [Cell.ofV, CellOk, Value.oneCell']

theorem cellsMap_ok (N : Nat) (β : Nat → Nat) (l : List Value) : CellsOk N β (l.map Cell.ofV) l := by
  induction l with
  | nil => simp [CellsOk]
  | cons v l ih => exact ⟨cellOfV_ok N β v, ih⟩

theorem cellsOfV_ok (N : Nat) (β : Nat → Nat) (v : Value) : CellsOk N β (cellsOfV v) v.cells.toList := by
  cases v <;> first | exact cellsMap_ok N β _ | (simp [cellsOfV, Value.cells, CellsOk]; exact cellOfV_ok N β _)

theorem SV1ofV_ok (N : Nat) (β : Nat → Nat) (v : Value) : SV1Ok N β (.ofV v) v := by
  cases v <;> first | exact ⟨_, rfl, cellsMap_ok N β _⟩ | (simp only [SV1.ofV, SV1Ok]; exact cellOfV_ok N β _)

/-- The cells that a known value takes. -/
def SV1.cells : SV1 → Option (List Cell)
  | .atom .any => none
  | .atom c => some [c]
  | .agg cs => some cs

theorem SV1.cells_ok {N : Nat} {β : Nat → Nat} {x : SV1} {cs : List Cell} (h : x.cells = some cs) {v : Value} (hv : SV1Ok N β x v) : CellsOk N β cs v.cells.toList := by
  cases x with
  | agg ds =>
    simp only [SV1.cells, Option.some.injEq] at h
    subst h
    obtain ⟨arr, rfl, hc⟩ := hv
    exact hc
  | atom c =>
    have hc : c ≠ .any := by rintro rfl; simp [SV1.cells] at h
    have h1 : cs = [c] := by cases c <;> simp_all [SV1.cells]
    subst h1
    have ho := CellOk.oneCell hv hc
    have : v.cells = #[v] := by cases v <;> simp_all [Value.cells, Value.oneCell']
    rw [this]
    exact ⟨hv, trivial⟩

/-- Which guards hold, where this one does. -/
def chain (s : S) : Nat → Nat → Bool → List (Nat × Bool)
  | 0, t, w => [(t, w)]
  | n + 1, t, w => (t, w) :: (match lk t s.slots with | .gd t' w' _ => chain s n t' w' | _ => [])

def hasG (t : Nat) (w : Bool) : List (Nat × Bool) → Bool
  | [] => false
  | (t', w') :: l => (Nat.beq t t' && (w == w')) || hasG t w l

def evS (s : S) (g : List (Nat × Bool)) : Operand → Option SV1
  | .tmp t => match lk t s.slots with
    | .one v => some v
    | .gd t' w v => if hasG t' w g then some v else none
    | .tup _ => none
  | .const v => some (.ofV v)
  | .func f => some (.atom (.raw (.func (.func f) #[] #[])))
  | .global _ => none

inductive Eff where
  | no
  | new (T : TypeId) (cs : List Cell)
  | upd (k : Nat) (T : TypeId) (cs : List Cell)

/-- New cells from place off on. -/
def splice (cs : List Cell) (off : Nat) (new : List Cell) : List Cell := cs.take off ++ new ++ cs.drop (off + new.length)

def spliceAll (place : Nat → Option (Nat × Nat)) : List Cell → List (Nat × List Cell) → Option (List Cell)
  | cs, [] => some cs
  | cs, (i, new) :: rest => match place i with
    | none => none
    | some (off, size) => if Nat.beq new.length size && Nat.ble (off + new.length) cs.length then spliceAll place (splice cs off new) rest else none

def noAny : List Cell → Bool
  | [] => true
  | .any :: _ => false
  | _ :: l => noAny l

def evParts (s : S) (g : List (Nat × Bool)) : List (Nat × Operand) → Option (List (Nat × List Cell))
  | [] => some []
  | (i, x) :: rest => match evS s g x with
    | none => none
    | some v => match v.cells, evParts s g rest with
      | some cs, some r => some ((i, cs) :: r)
      | _, _ => none

def sizeP (P : Program) (t : TypeId) : Option Nat := (P.info? t).map (·.size)

def places (P : Program) : List Field → Option (List (Nat × Nat))
  | [] => some []
  | f :: fs => match sizeP P f.type, places P fs with
    | some n, some r => some ((f.offset, n) :: r)
    | _, _ => none

def isAggD : TypeDesc → Bool
  | .struct _ => true
  | .array _ _ => true
  | _ => false

def loadS (P : Program) (T : TypeId) (cs : List Cell) (off : Nat) : Option SV1 :=
  match sizeP P T, P.underlying T with
  | some n, some d =>
    match isAggD d with
    | true => if Nat.ble (off + n) cs.length then some (.agg ((cs.drop off).take n)) else none
    | false => (cs[off]?).map .atom
  | _, _ => none

def cmpS (op : BinOp) (a b : Int) : Option Bool :=
  match op with
  | .eql => some (a == b)
  | .neq => some (a != b)
  | .lss => some (decide (a < b))
  | .leq => some (decide (a ≤ b))
  | .gtr => some (decide (a > b))
  | .geq => some (decide (a ≥ b))
  | _ => none

def binS (P : Program) (op : BinOp) (xT : TypeId) (x y : SV1) (yo : Operand) : Option SV1 :=
  match x, y with
  | .atom (.int k a), .atom (.int k' b) =>
    match k == k' with
    | false => none
    | true => match op with
      | .add => some (.atom (.int k (k.wrap (a + b))))
      | .sub => some (.atom (.int k (k.wrap (a - b))))
      | .mul => some (.atom (.int k (k.wrap (a * b))))
      | .rem => match yo with
        | .const (.int _ (.ofNat (n + 1))) => some (.atom (.int k (a.tmod (.ofNat (n + 1)))))
        | _ => none
      | .quo => match yo with
        | .const (.int _ (.ofNat (n + 1))) => some (.atom (.int k (k.wrap (a.tdiv (.ofNat (n + 1))))))
        | _ => none
      | op => (cmpS op a b).map fun r => .atom (.bool r)
  | .atom (.bool a), .atom (.bool b) =>
    match P.underlying xT with
    | some .bool => match op with
      | .eql => some (.atom (.bool (a == b)))
      | .neq => some (.atom (.bool (!(a == b))))
      | _ => none
    | _ => none
  | _, _ => none

def opEval (P : Program) (s : S) (g : List (Nat × Bool)) : Op → Option (SV1 × Eff)
  | .move x => (evS s g x).map fun v => (v, .no)
  | .assign x => (evS s g x).map fun v => (v, .no)
  | .pick (.tmp tc) a b => match evS s g (.tmp tc) with
    | some (.atom (.bool c)) => match evS s ((tc, true) :: g) a, evS s ((tc, false) :: g) b with
      | some (.atom (.bool x)), some (.atom (.bool y)) =>
        some (.atom (.bool (match a with
          | .const (.bool true) => c || y
          | _ => match b with
            | .const (.bool false) => c && x
            | _ => bif c then x else y)), .no)
      | _, _ => none
    | _ => none
  | .alloc T => match P.info? T with
    | some i => match i.zero with
      | some z => some (.atom (.ptr s.nb 0), .new T (cellsOfV z))
      | none => none
    | none => none
  | .box T x => match evS s g x with
    | some v => v.cells.map fun cs => (.atom (.ptr s.nb 0), .new T cs)
    | none => none
  | .build T parts => match P.info? T, P.underlying T, evParts s g parts.toList with
    | some i, some (.struct fs), some ps => match i.zero, places P fs.toList with
      | some z, some pl => (spliceAll (pl[·]?) (cellsOfV z) ps).map fun cs => (.agg cs, .no)
      | _, _ => none
    | _, _, _ => none
  | .buildSlice T len parts => match P.underlying T, evParts s g parts.toList with
    | some (.slice e), some ps => match P.info? e with
      | some i => match i.zero with
        | some z => if Nat.beq i.size (cellsOfV z).length && Nat.ble 1 i.size && Nat.ble (len * i.size) 1000 then
            (spliceAll (fun j => some (j * i.size, i.size)) ((List.replicate len (cellsOfV z)).flatten) ps).map fun cs => (.atom (.bsl s.nb 0 len len), .new e cs)
          else none
        | none => none
      | none => none
    | _, _ => none
  | .load T x => match evS s g x with
    | some (.atom (.ptr k off)) => match bx k s.boxes with
      | some ⟨_, .lit _ cs⟩ => (loadS P T cs off).map fun v => (v, .no)
      | _ => none
    | _ => none
  | .store T x y => match evS s g x, evS s g y with
    | some (.atom (.ptr k off)), some v => match bx k s.boxes, v.cells, sizeP P T with
      | some ⟨_, .lit T' cs⟩, some new, some n => if Nat.beq new.length n && Nat.ble (off + new.length) cs.length && noAny new then some (.atom .any, .upd k T' (splice cs off new)) else none
      | _, _, _ => none
    | _, _ => none
  | .nilCheck x => match evS s g x with
    | some (.atom (.ptr k off)) => some (.atom (.ptr k off), .no)
    | some (.atom (.clo f b k off)) => some (.atom (.clo f b k off), .no)
    | some (.atom (.raw (.pointer (some a)))) => some (.atom (.raw (.pointer (some a))), .no)
    | _ => none
  | .binOp op xT x y _ => match evS s g x, evS s g y with
    | some a, some b => (binS P op xT a b y).map fun v => (v, .no)
    | _, _ => none
  | .unOp .not _ x => match evS s g x with
    | some (.atom (.bool b)) => some (.atom (.bool (!b)), .no)
    | _ => none
  | .fieldAddr T x f => match evS s g x, P.underlying T with
    | some (.atom (.ptr k off)), some (.struct fs) => match fs.toList[f]? with
      | some fl => match sizeP P fl.type with
        | some (_ + 1) => some (.atom (.ptr k (off + fl.offset)), .no)
        | _ => none
      | none => none
    | some (.atom (.raw (.pointer (some a)))), some (.struct fs) => match fs.toList[f]? with
      | some fl => match sizeP P fl.type with
        | some (_ + 1) => some (.atom (.raw (.pointer (some (a.add fl.offset)))), .no)
        | _ => none
      | none => none
    | _, _ => none
  | .field T x f => match evS s g x, P.underlying T with
    | some (.agg cs), some (.struct fs) => match fs.toList[f]? with
      | some fl => (loadS P fl.type cs fl.offset).map fun v => (v, .no)
      | none => none
    | _, _ => none
  | .extract (.tmp t) i => match lk t s.slots with
    | .tup vs => (vs[i]?).map fun v => (v, .no)
    | _ => none
  | .makeFunc (.func f) first captured => match first.toList, captured.toList with
    | [x], [] => match evS s g x with
      | some (.atom (.ptr k off)) => some (.atom (.clo f true k off), .no)
      | _ => none
    | [], [x] => match evS s g x with
      | some (.atom (.ptr k off)) => some (.atom (.clo f false k off), .no)
      | _ => none
    | _, _ => none
  | .convert src dst x => match evS s g x, P.underlying src, P.underlying dst with
    | some (.atom (.int _ n)), some (.int _), some (.int k) => some (.atom (.int k (k.wrap n)), .no)
    | _, _, _ => none
  | .indexAddr T x (.const (.int _ (.ofNat i))) => match evS s g x, P.underlying T with
    | some (.atom (.ptr k off)), some (.array n e) => match sizeP P e with
      | some m => if Nat.blt i n then some (.atom (.ptr k (off + i * m)), .no) else none
      | none => none
    | some (.atom (.bsl k off n _)), some (.slice e) => match sizeP P e with
      | some m => if Nat.blt i n then some (.atom (.ptr k (off + i * m)), .no) else none
      | none => none
    | _, _ => none
  | .call ⟨.builtin .len, args, types⟩ => match args.toList, types.toList with
    | [x], [T] => match evS s g x, P.underlying T with
      | some (.atom (.str b)), some .string => some (.atom (.int .i64 b.size), .no)
      | some (.atom (.sl _ n)), some (.slice _) => some (.atom (.int .i64 n), .no)
      | some (.atom (.bsl _ _ n _)), some (.slice _) => some (.atom (.int .i64 n), .no)
      | _, _ => none
    | _, _ => none
  | .call ⟨.builtin .min, args, _⟩ => match args.toList with
    | [x, y] => match evS s g x, evS s g y with
      | some (.atom (.int k a)), some (.atom (.int _ b)) => some (.atom (.int k (if b < a then b else a)), .no)
      | _, _ => none
    | _ => none
  | .call ⟨.builtin .max, args, _⟩ => match args.toList with
    | [x, y] => match evS s g x, evS s g y with
      | some (.atom (.int k a)), some (.atom (.int _ b)) => some (.atom (.int k (if b > a then b else a)), .no)
      | _, _ => none
    | _ => none
  | _ => none

section sound
variable {P : Program} {hE : GH} {w0 : World} {inc : List Nat} {n : Nat} {s : S} {h : GH} {β : Nat → Nat} {w : World} {tmps : Array Value}

def evT (tmps : Array Value) : Operand → Value := (⟨tmps, []⟩ : Act).eval

def GOk (tmps : Array Value) (g : List (Nat × Bool)) : Prop := ∀ t w, hasG t w g = true → tmps.getD t undef = .bool w

theorem GOk.nil : GOk tmps [] := fun _ _ h => by simp [hasG] at h
theorem GOk.cons {g : List (Nat × Bool)} (hg : GOk tmps g) {t : Nat} {b : Bool} (ht : tmps.getD t undef = .bool b) : GOk tmps ((t, b) :: g) := by
  intro t' w' h
  simp only [hasG, Bool.or_eq_true, Bool.and_eq_true, beq_iff_eq] at h
  rcases h with ⟨h1, h2⟩ | h
  · have := Nat.eq_of_beq_eq_true h1; subst this; subst h2; exact ht
  · exact hg _ _ h

theorem chain_ok (hS : Sim hE w0 inc n s h β w tmps) : ∀ (m t : Nat) (b : Bool), tmps.getD t undef = .bool b → GOk tmps (chain s m t b) := by
  intro m
  induction m with
  | zero => intro t b ht; exact GOk.nil.cons ht
  | succ m ih =>
    intro t b ht
    refine GOk.cons ?_ ht
    have hs := hS.slots t
    cases hl : lk t s.slots with
    | one v => exact GOk.nil
    | tup v => exact GOk.nil
    | gd t' w' v =>
      rw [hl] at hs
      refine ih t' w' ?_
      rcases hs with ⟨h1, _⟩ | ⟨_, h2⟩
      · exact h1
      · rw [ht] at h2; simp [undef] at h2

theorem evS_ok (hS : Sim hE w0 inc n s h β w tmps) {g : List (Nat × Bool)} (hg : GOk tmps g) {x : Operand} {v : SV1} (he : evS s g x = some v) : SV1Ok s.nb β v (evT tmps x) := by
  cases x with
  | tmp t =>
    have hs := hS.slots t
    simp only [evS] at he
    cases hl : lk t s.slots with
    | one u => rw [hl] at he hs; simp at he; subst he; exact hs
    | tup u => rw [hl] at he; simp at he
    | gd t' w' u =>
      rw [hl] at he hs
      simp only at he
      split at he
      · rename_i hh
        simp at he; subst he
        rcases hs with ⟨_, h1⟩ | ⟨h1, _⟩
        · exact h1
        · exact absurd (hg _ _ hh) h1
      · simp at he
  | const u => simp only [evS, Option.some.injEq] at he; subst he; exact SV1ofV_ok _ _ _
  | func f => simp only [evS, Option.some.injEq] at he; subst he; exact ⟨rfl, rfl⟩
  | global g => simp [evS] at he

theorem evS_atom (hS : Sim hE w0 inc n s h β w tmps) {g : List (Nat × Bool)} (hg : GOk tmps g) {x : Operand} {c : Cell} (he : evS s g x = some (.atom c)) : CellOk s.nb β c (evT tmps x) := evS_ok hS hg he

theorem underlying_info {t : TypeId} {d : TypeDesc} (hd : P.underlying t = some d) : ∃ i, P.info? t = some i := by
  unfold Program.underlying at hd
  cases h : P.info? t with
  | none => rw [h] at hd; simp at hd
  | some i => exact ⟨i, rfl⟩

theorem run_sizeP {t : TypeId} {m : Nat} (hm : sizeP P t = some m) (w : World) : (sizeOf t).run P w = .ok m w := by
  unfold sizeP at hm
  cases hi : P.info? t with
  | none => rw [hi] at hm; simp at hm
  | some i => rw [hi] at hm; simp at hm; simp [sizeOf, typeInfo, hi, hm]

theorem run_isAggP {t : TypeId} {d : TypeDesc} (hd : P.underlying t = some d) (w : World) : (isAgg t).run P w = .ok (isAggD d) w := by
  unfold isAgg
  simp only [Sem.run_bind, run_underlying hd, Result.andThen_ok]
  cases d <;> simp [isAggD]

theorem cell_of_heap {b off : Nat} {arr : Array Value} {T : TypeId} {fr : Nat × Nat} (hb : w.heap[b]? = some (.cells arr T fr)) : w.cell? ⟨b, off, none⟩ = arr[off]? := by
  simp [World.cell?, hb]

theorem run_loadCells_heap {b off m : Nat} {arr : Array Value} {T : TypeId} {fr : Nat × Nat} (hb : w.heap[b]? = some (.cells arr T fr)) (hl : off + m ≤ arr.size) :
    (loadCells ⟨b, off, none⟩ m).run P w = .ok ((arr.toList.drop off).take m).toArray w := by
  have hlen : ((arr.toList.drop off).take m).length = m := by simp; omega
  have := run_loadCells_list (P := P) w ⟨b, off, none⟩ ((arr.toList.drop off).take m) (fun j v hj => by
    rw [Addr.add_lit, cell_of_heap hb]
    have hj' : j < m := by
      rcases Nat.lt_or_ge j m with h | h
      · exact h
      · rw [List.getElem?_eq_none (by omega)] at hj; simp at hj
    rw [List.getElem?_take, if_pos hj', List.getElem?_drop] at hj
    simpa using hj)
  rwa [hlen] at this

/-- A load out of a block that is known. -/
theorem run_loadVar_heap {t : TypeId} {m : Nat} {d : TypeDesc} (hm : sizeP P t = some m) (hd : P.underlying t = some d) {b off : Nat} {arr : Array Value} {T : TypeId} {fr : Nat × Nat}
    (hb : w.heap[b]? = some (.cells arr T fr)) {N : Nat} {β : Nat → Nat} {cs : List Cell} (hc : CellsOk N β cs arr.toList) {v : SV1} (hv : loadS P t cs off = some v) :
    ∃ u, SV1Ok N β v u ∧ ∀ w' : World, w'.heap[b]? = w.heap[b]? → (loadVar t ⟨b, off, none⟩).run P w' = .ok u w' := by
  simp only [loadS, hm, hd] at hv
  unfold loadVar
  simp only [Sem.run_bind, run_isAggP hd, Result.andThen_ok]
  have hlen := hc.length
  cases ha : isAggD d with
  | true =>
    rw [ha] at hv
    simp only at hv
    split at hv
    · rename_i hle
      have hle := Nat.le_of_ble_eq_true hle
      simp at hv; subst hv
      refine ⟨_, ⟨((arr.toList.drop off).take m).toArray, rfl, ?_⟩, fun w' hw' => ?_⟩
      · simpa using (hc.drop off).take m
      · simp at hlen
        simp [run_sizeP hm, run_loadCells_heap (hw'.trans hb) (m := m) (off := off) (by omega)]
    · simp at hv
  | false =>
    rw [ha] at hv
    simp only [Option.map_eq_some_iff] at hv
    obtain ⟨c, hc1, rfl⟩ := hv
    obtain ⟨u, hu, hok⟩ := hc.get hc1
    refine ⟨u, hok, fun w' hw' => ?_⟩
    have : w'.cell? ⟨b, off, none⟩ = some u := by rw [cell_of_heap (hw'.trans hb)]; simpa using hu
    simp [this]

theorem run_part {t : TypeId} {m : Nat} {d : TypeDesc} (hm : sizeP P t = some m) (hd : P.underlying t = some d) {off : Nat} {arr : Array Value} {N : Nat} {β : Nat → Nat} {cs : List Cell}
    (hc : CellsOk N β cs arr.toList) {v : SV1} (hv : loadS P t cs off = some v) : ∃ u, SV1Ok N β v u ∧ ∀ w : World, (part t arr off).run P w = .ok u w := by
  simp only [loadS, hm, hd] at hv
  unfold part
  simp only [Sem.run_bind, run_isAggP hd, Result.andThen_ok]
  have hlen := hc.length
  cases ha : isAggD d with
  | true =>
    rw [ha] at hv
    simp only at hv
    split at hv
    · simp at hv; subst hv
      refine ⟨_, ⟨arr.extract off (off + m), rfl, ?_⟩, by simp [run_sizeP hm]⟩
      have := (hc.drop off).take m
      simpa [List.extract_eq_take_drop, Array.toList_extract] using this
    · simp at hv
  | false =>
    rw [ha] at hv
    simp only [Option.map_eq_some_iff] at hv
    obtain ⟨c, hc1, rfl⟩ := hv
    obtain ⟨u, hu, hok⟩ := hc.get hc1
    refine ⟨u, hok, ?_⟩
    have : arr[off]? = some u := by simpa using hu
    simp [this]
end sound
end Go.Proofs.Ytkjahaoobdbffaa

/- The base of this seat's proofs, third part: each operation that is computed on what is known does in the machine just what was computed. -/
namespace Go.Proofs.Ytkjahaoobdbffaa
open Go Go.RowKit

section sound
variable {P : Program} {hE : GH} {w0 : World} {inc : List Nat} {n : Nat} {s : S} {h : GH} {β : Nat → Nat} {w : World} {tmps : Array Value}

def EffOk (P : Program) (s : S) (β : Nat → Nat) (w : World) (tmps : Array Value) (o : Oper) (v : SV1) : Eff → Prop
  | .no => ∃ u, SV1Ok s.nb β v u ∧ ∀ w' : World, (∀ k b, bx k s.boxes = some b → w'.heap[β k]? = w.heap[β k]?) → (execOp (evT tmps) o).run P w' = .ok (.value u) w'
  | .new T cs => ∃ (arr : Array Value) (u : Value), CellsOk s.nb β cs arr.toList ∧ (∀ β' : Nat → Nat, β' s.nb = w.heap.size → SV1Ok (s.nb + 1) β' v u) ∧
      (execOp (evT tmps) o).run P w = .ok (.value u) (w.alloc (.cells arr T))
  | .upd k T cs => ∃ b cs0 arr, bx k s.boxes = some ⟨b, .lit T cs0⟩ ∧ CellsOk s.nb β cs arr.toList ∧ (execOp (evT tmps) o).run P w = .ok .skip (w.setRow (β k) arr)

/-- Filling in the machine is splicing on what is known. -/
theorem foldl_set (new : List Value) : ∀ (k off : Nat) (cells : Array Value), off + k + new.length ≤ cells.size →
    ((new.zipIdx k).foldl (fun cs (x : Value × Nat) => cs.setIfInBounds (off + x.2) x.1) cells).toList = cells.toList.take (off + k) ++ new ++ cells.toList.drop (off + k + new.length) := by
  induction new with
  | nil => intro k off cells hl; simp
  | cons c new ih =>
    intro k off cells hl
    simp only [List.zipIdx_cons, List.foldl_cons]
    rw [ih (k + 1) off (cells.setIfInBounds (off + k) c) (by simp at hl ⊢; omega)]
    simp only [List.length_cons] at hl ⊢
    rw [Array.toList_setIfInBounds]
    have := list_seg_step cells.toList (off + k) c new (by simp; omega)
    rw [show off + (k + 1) = off + k + 1 by omega]
    exact this

theorem fill_ok {N : Nat} {place place' : Nat → Option (Nat × Nat)} (hpl : ∀ i x, place i = some x → place' i = some x) : ∀ (ps : List (Nat × List Cell)) (vs : List (Nat × Value)) (cs : List Cell) (cells : Array Value) (out : List Cell),
    CellsOk N β cs cells.toList → ps.length = vs.length → (∀ (j i : Nat) (c : List Cell), ps[j]? = some (i, c) → ∃ v : Value, vs[j]? = some (i, v) ∧ CellsOk N β c v.cells.toList) → spliceAll place cs ps = some out →
    ∃ arr, Instr.fill place' cells vs = some arr ∧ CellsOk N β out arr.toList := by
  intro ps
  induction ps with
  | nil =>
    intro vs cs cells out hc hl _ hsp
    cases vs with
    | nil => simp [spliceAll] at hsp; subst hsp; exact ⟨cells, rfl, hc⟩
    | cons v vs => simp at hl
  | cons p ps ih =>
    intro vs cs cells out hc hl hp hsp
    cases vs with
    | nil => simp at hl
    | cons x vs =>
      obtain ⟨i, new⟩ := p
      obtain ⟨v, hx, hv⟩ := hp 0 i new (by simp)
      simp at hx; subst hx
      simp only [spliceAll] at hsp
      cases hpi : place i with
      | none => rw [hpi] at hsp; simp at hsp
      | some os =>
        obtain ⟨off, size⟩ := os
        rw [hpi] at hsp
        simp only at hsp
        split at hsp
        · rename_i hb
          simp only [Bool.and_eq_true] at hb
          have h1 := Nat.eq_of_beq_eq_true hb.1
          have h2 := Nat.le_of_ble_eq_true hb.2
          have hlv := hv.length
          have hlc := hc.length
          simp at hlv hlc
          simp only [Instr.fill, hpl _ _ hpi]
          rw [if_neg (by simp; omega)]
          refine ih vs (splice cs off new) _ out ?_ (by simpa using hl) (fun j i c hj => by simpa using hp (j + 1) i c (by simpa using hj)) hsp
          have hf := foldl_set v.cells.toList 0 off cells (by simp; omega)
          have he : (v.cells.zipIdx.foldl (fun cs (x : Value × Nat) => cs.setIfInBounds (off + x.2) x.1) cells).toList = cells.toList.take off ++ v.cells.toList ++ cells.toList.drop (off + v.cells.size) := by
            rw [← Array.foldl_toList, Array.toList_zipIdx]
            simpa using hf
          show CellsOk N β _ (v.cells.zipIdx.foldl (fun cs (x : Value × Nat) => cs.setIfInBounds (off + x.2) x.1) cells).toList
          rw [he]
          unfold splice
          have := ((hc.take off).append hv).append (hc.drop (off + new.length))
          rw [hlv]; exact this
        · simp at hsp

theorem exec_no {o : Oper} {v : SV1} {u : Value} (h1 : SV1Ok s.nb β v u) (h2 : ∀ w' : World, (∀ k b, bx k s.boxes = some b → w'.heap[β k]? = w.heap[β k]?) → (execOp (evT tmps) o).run P w' = .ok (.value u) w') : EffOk P s β w tmps o v .no := ⟨u, h1, h2⟩

theorem map_some {α γ : Type} {f : α → γ} {x : Option α} {y : γ} (h : x.map f = some y) : ∃ a, x = some a ∧ f a = y := by
  cases x <;> simp_all

theorem op_move (hS : Sim hE w0 inc n s h β w tmps) {g : List (Nat × Bool)} (hg : GOk tmps g) {o : Oper} {x : Operand} (ho : o.op = .move x ∨ o.op = .assign x) {v : SV1} {e : Eff}
    (he : ((evS s g x).map fun v => (v, Eff.no)) = some (v, e)) : EffOk P s β w tmps o v e := by
  obtain ⟨a, h1, h2⟩ := map_some he
  simp only [Prod.mk.injEq] at h2
  obtain ⟨rfl, rfl⟩ := h2
  refine exec_no (evS_ok hS hg h1) (fun w' hw' => ?_)
  rcases ho with ho | ho <;> simp [execOp, ho]

theorem op_pick (hS : Sim hE w0 inc n s h β w tmps) {g : List (Nat × Bool)} (hg : GOk tmps g) {o : Oper} {c a b : Operand} (ho : o.op = .pick c a b) {v : SV1} {e : Eff}
    (he : opEval P s g (.pick c a b) = some (v, e)) : EffOk P s β w tmps o v e := by
  cases c with
  | tmp tc =>
    simp only [opEval] at he
    split at he
    · rename_i c hc
      have hcv : tmps.getD tc undef = .bool c := by
        have := evS_atom hS hg hc
        simpa [CellOk, evT, Act.eval] using this
      split at he
      · rename_i x y hx hy
        simp only [Option.some.injEq, Prod.mk.injEq] at he
        obtain ⟨rfl, rfl⟩ := he
        have hev : evT tmps (.tmp tc) = .bool c := hcv
        cases c with
        | true =>
          have h1 := evS_atom hS (hg.cons hcv) hx
          simp only [CellOk] at h1
          refine exec_no (u := .bool x) ?_ (fun w' hw' => by simp [execOp, ho, hev, asBool, h1])
          simp only [SV1Ok, CellOk, Value.bool.injEq]
          split
          · simp [evT, Act.eval] at h1; simp [h1]
          · split <;> simp
        | false =>
          have h1 := evS_atom hS (hg.cons hcv) hy
          simp only [CellOk] at h1
          refine exec_no (u := .bool y) ?_ (fun w' hw' => by simp [execOp, ho, hev, asBool, h1])
          simp only [SV1Ok, CellOk, Value.bool.injEq]
          split
          · simp
          · split
            · simp [evT, Act.eval] at h1; simp [h1]
            · simp
      · simp at he
    · simp at he
  | _ => simp [opEval] at he

theorem op_alloc {o : Oper} {T : TypeId} (ho : o.op = .alloc T) {g : List (Nat × Bool)} {v : SV1} {e : Eff} (he : opEval P s g (.alloc T) = some (v, e)) : EffOk P s β w tmps o v e := by
  simp only [opEval] at he
  split at he
  · rename_i i hi
    split at he
    · rename_i z hz
      simp only [Option.some.injEq, Prod.mk.injEq] at he
      obtain ⟨rfl, rfl⟩ := he
      refine ⟨z.cells, .pointer (some ⟨w.heap.size, 0, none⟩), cellsOfV_ok _ _ z, fun β' hb => ⟨by rw [hb], by omega⟩, ?_⟩
      simp [execOp, ho, Instr.alloc, zeroValue, typeInfo, hi, hz, newVar, newRow]
    · simp at he
  · simp at he

theorem op_box (hS : Sim hE w0 inc n s h β w tmps) {g : List (Nat × Bool)} (hg : GOk tmps g) {o : Oper} {T : TypeId} {x : Operand} (ho : o.op = .box T x) {v : SV1} {e : Eff}
    (he : opEval P s g (.box T x) = some (v, e)) : EffOk P s β w tmps o v e := by
  simp only [opEval] at he
  split at he
  · rename_i u hu
    obtain ⟨cs, h1, h2⟩ := map_some he
    simp only [Prod.mk.injEq] at h2
    obtain ⟨rfl, rfl⟩ := h2
    refine ⟨_, .pointer (some ⟨w.heap.size, 0, none⟩), SV1.cells_ok h1 (evS_ok hS hg hu), fun β' hb => ⟨by rw [hb], by omega⟩, ?_⟩
    simp [execOp, ho, Instr.box, newVar, newRow]
  · simp at he

theorem evParts_ok (hS : Sim hE w0 inc n s h β w tmps) {g : List (Nat × Bool)} (hg : GOk tmps g) : ∀ (l : List (Nat × Operand)) (ps : List (Nat × List Cell)), evParts s g l = some ps →
    ps.length = (l.map fun (i, x) => (i, evT tmps x)).length ∧ ∀ (j i : Nat) (c : List Cell), ps[j]? = some (i, c) → ∃ v : Value, (l.map fun (i, x) => (i, evT tmps x))[j]? = some (i, v) ∧ CellsOk s.nb β c v.cells.toList := by
  intro l
  induction l with
  | nil => intro ps hp; simp [evParts] at hp; subst hp; simp
  | cons y l ih =>
    obtain ⟨i, x⟩ := y
    intro ps hp
    simp only [evParts] at hp
    split at hp
    · simp at hp
    · rename_i v hv
      split at hp
      · rename_i cs r h1 h2
        simp only [Option.some.injEq] at hp
        subst hp
        obtain ⟨h3, h4⟩ := ih r h2
        refine ⟨by simpa using h3, fun j i c hj => ?_⟩
        cases j with
        | zero =>
          simp at hj
          obtain ⟨rfl, rfl⟩ := hj
          exact ⟨_, by simp, SV1.cells_ok h1 (evS_ok hS hg hv)⟩
        | succ j => simpa using h4 j i c (by simpa using hj)
      · simp at hp

theorem places_ok : ∀ (fs : List Field) (pl : List (Nat × Nat)) (w : World), places P fs = some pl → (fs.mapM fun f => (Prod.mk f.offset <$> sizeOf f.type : Sem (Nat × Nat))).run P w = .ok pl w := by
  intro fs
  induction fs with
  | nil => intro pl w hp; simp [places] at hp; subst hp; simp
  | cons f fs ih =>
    intro pl w hp
    simp only [places] at hp
    split at hp
    · rename_i m r h1 h2
      simp only [Option.some.injEq] at hp
      subst hp
      have := ih r w h2
      simp [List.mapM_cons, run_sizeP h1, this]
    · simp at hp

theorem op_build (hS : Sim hE w0 inc n s h β w tmps) {g : List (Nat × Bool)} (hg : GOk tmps g) {o : Oper} {T : TypeId} {parts : Array (Nat × Operand)} (ho : o.op = .build T parts) {v : SV1} {e : Eff}
    (he : opEval P s g (.build T parts) = some (v, e)) : EffOk P s β w tmps o v e := by
  simp only [opEval] at he
  split at he
  · rename_i i fs ps hi hu hps
    split at he
    · rename_i z pl hz hpl
      obtain ⟨cs, h1, h2⟩ := map_some he
      simp only [Prod.mk.injEq] at h2
      obtain ⟨rfl, rfl⟩ := h2
      obtain ⟨h3, h4⟩ := evParts_ok hS hg _ _ hps
      obtain ⟨arr, h5, h6⟩ := fill_ok (place' := fun j => pl[j]?) (fun _ _ h => h) ps _ _ z.cells cs (cellsOfV_ok s.nb β z) h3 h4 h1
      refine exec_no (u := .agg arr) ⟨arr, rfl, h6⟩ (fun w' hw' => ?_)
      have hm := places_ok fs.toList pl w' hpl
      have hm' : (fs.mapM fun f => (Prod.mk f.offset <$> sizeOf f.type : Sem (Nat × Nat))).run P w' = .ok pl.toArray w' := by
        rw [Array.mapM_eq_mapM_toList, Sem.run_map, hm]; rfl
      simp [execOp, ho, Instr.build, zeroValue, typeInfo, hi, hz, run_underlying hu, hm', h5]
    · simp at he
  · simp at he
end sound
end Go.Proofs.Ytkjahaoobdbffaa

/- The base of this seat's proofs, fourth part: the other operations that are computed. -/
namespace Go.Proofs.Ytkjahaoobdbffaa
open Go Go.RowKit

section sound
variable {P : Program} {hE : GH} {w0 : World} {inc : List Nat} {n : Nat} {s : S} {h : GH} {β : Nat → Nat} {w : World} {tmps : Array Value}

theorem CellsOk.flatten_replicate {N : Nat} {β : Nat → Nat} {cs : List Cell} {vs : List Value} (hc : CellsOk N β cs vs) (k : Nat) : CellsOk N β (List.replicate k cs).flatten (List.replicate k vs).flatten := by
  induction k with
  | zero => simp [CellsOk]
  | succ k ih => simp only [List.replicate_succ, List.flatten_cons]; exact hc.append ih

theorem zeros_eq (z : Array Value) : ∀ len, ((Array.range (len * z.size)).map (fun i => z[i % z.size]!)).toList = (List.replicate len z.toList).flatten := by
  intro len
  induction len with
  | zero => simp
  | succ len ih =>
    rw [List.replicate_succ', List.flatten_append, ← ih]
    simp only [Array.toList_map, Array.toList_range, Nat.add_mul, Nat.one_mul, List.range_add, List.map_append, List.map_map]
    congr 1
    apply List.ext_getElem
    · simp
    · intro i h1 h2
      simp only [List.length_map, List.length_range] at h1
      simp [Nat.mod_eq_of_lt h1, getElem!_pos, h1]

theorem op_buildSlice (hS : Sim hE w0 inc n s h β w tmps) {g : List (Nat × Bool)} (hg : GOk tmps g) {o : Oper} {T : TypeId} {len : Nat} {parts : Array (Nat × Operand)} (ho : o.op = .buildSlice T len parts) {v : SV1} {e : Eff}
    (he : opEval P s g (.buildSlice T len parts) = some (v, e)) : EffOk P s β w tmps o v e := by
  simp only [opEval] at he
  split at he
  · rename_i el ps hu hps
    split at he
    · rename_i i hi
      split at he
      · rename_i z hz
        split at he
        · rename_i hb
          simp only [Bool.and_eq_true] at hb
          have hb1 := Nat.eq_of_beq_eq_true hb.1.1
          have hb2 := Nat.le_of_ble_eq_true hb.1.2
          have hb3 := Nat.le_of_ble_eq_true hb.2
          obtain ⟨cs, h1, h2⟩ := map_some he
          simp only [Prod.mk.injEq] at h2
          obtain ⟨rfl, rfl⟩ := h2
          have hzl : (cellsOfV z).length = z.cells.size := by have := (cellsOfV_ok 0 β z).length; simpa using this.symm
          obtain ⟨h3, h4⟩ := evParts_ok hS hg _ _ hps
          have hz0 : CellsOk s.nb β (List.replicate len (cellsOfV z)).flatten ((Array.range (len * i.size)).map (fun j => z.cells[j % z.cells.size]!)).toList := by
            have := zeros_eq z.cells len
            rw [hb1, hzl, this]
            exact (cellsOfV_ok _ _ z).flatten_replicate len
          obtain ⟨arr, h5, h6⟩ := fill_ok (place' := fun j => some (j * i.size, i.size)) (fun _ _ h => h) ps _ _ _ cs hz0 h3 h4 h1
          refine ⟨arr, .slice (some ⟨w.heap.size, 0, none⟩) len len, h6, fun β' hb' => ⟨by rw [hb'], by omega⟩, ?_⟩
          have hne : ¬ len * i.size > 2 ^ 24 := by omega
          simp only [execOp, ho, Instr.buildSlice, Sem.run_bind, run_underlying hu, Result.andThen_ok, run_sizeP (show sizeP P el = some i.size by simp [sizeP, hi]), Sem.run_ite, if_neg hne]
          by_cases hz' : len * i.size = 0
          · have h5' : Instr.fill (fun j => some (j * i.size, i.size)) ((Array.range (len * i.size)).map (fun j => (#[] : Array Value)[j % (#[] : Array Value).size]!)) (parts.map fun (i, x) => (i, evT tmps x)).toList = some arr := by
              have hr : Array.range 0 = #[] := by simp [Array.range]
              rw [hz', hr] at h5 ⊢
              simpa using h5
            simp only [if_pos hz', Sem.run_pure, Result.andThen_ok, h5', Sem.run_bind, newRow, run_newObj, World.alloc_eq]
          · have h5' : Instr.fill (fun j => some (j * i.size, i.size)) ((Array.range (len * i.size)).map (fun j => z.cells[j % z.cells.size]!)) (parts.map fun (i, x) => (i, evT tmps x)).toList = some arr := by simpa using h5
            simp only [if_neg hz', zeroValue, typeInfo, Sem.run_bind, run_program, hi, hz, Sem.run_pure, Result.andThen_ok, h5', newRow, run_newObj, World.alloc_eq]
        · simp at he
      · simp at he
    · simp at he
  · simp at he

theorem op_load (hS : Sim hE w0 inc n s h β w tmps) {g : List (Nat × Bool)} (hg : GOk tmps g) {o : Oper} {T : TypeId} {x : Operand} (ho : o.op = .load T x) {v : SV1} {e : Eff}
    (he : opEval P s g (.load T x) = some (v, e)) : EffOk P s β w tmps o v e := by
  simp only [opEval] at he
  split at he
  · rename_i k off hx
    split at he
    · rename_i a T' cs hb
      obtain ⟨v', h1, h2⟩ := map_some he
      simp only [Prod.mk.injEq] at h2
      obtain ⟨rfl, rfl⟩ := h2
      have hp := evS_atom hS hg hx
      simp only [CellOk] at hp
      obtain ⟨arr, hh, hc⟩ := hS.box _ _ hb
      cases hm : sizeP P T with
      | none => simp [loadS, hm] at h1
      | some m => cases hd : P.underlying T with
        | none => simp [loadS, hm, hd] at h1
        | some d =>
          obtain ⟨u, h3, h4⟩ := run_loadVar_heap hm hd hh hc h1
          exact exec_no h3 (fun w' hw' => by simp [execOp, ho, Instr.loadAt, Instr.sureAddr, hp.1, h4 w' (hw' _ _ hb)])
    · simp at he
  · simp at he

theorem CellsOk.splice_ok {N : Nat} {β : Nat → Nat} {cs new : List Cell} {vs us : List Value} (hc : CellsOk N β cs vs) (hn : CellsOk N β new us) (off : Nat) : CellsOk N β (splice cs off new) (vs.take off ++ us ++ vs.drop (off + us.length)) := by
  unfold splice
  have := ((hc.take off).append hn).append (hc.drop (off + new.length))
  rw [hn.length]; exact this

theorem CellsOk.oneCell {N : Nat} {β : Nat → Nat} {cs : List Cell} {vs : List Value} (hc : CellsOk N β cs vs) (ha : ∀ c ∈ cs, c ≠ .any) : ∀ v ∈ vs, v.oneCell' = true := by
  induction cs generalizing vs with
  | nil => cases vs <;> simp_all [CellsOk]
  | cons c cs ih => cases vs with
    | nil => simp
    | cons v vs =>
      intro u hu
      simp only [List.mem_cons] at hu
      rcases hu with rfl | hu
      · exact CellOk.oneCell hc.1 (ha c (by simp))
      · exact ih hc.2 (fun c hc => ha c (by simp [hc])) u hu


theorem noAny_ok {cs : List Cell} (h : noAny cs = true) : ∀ c ∈ cs, c ≠ .any := by
  induction cs with
  | nil => simp
  | cons c cs ih =>
    intro d hd
    cases c <;> simp [noAny] at h
    all_goals
      simp only [List.mem_cons] at hd
      rcases hd with rfl | hd
      · simp
      · exact ih h d hd

theorem op_store (hS : Sim hE w0 inc n s h β w tmps) {g : List (Nat × Bool)} (hg : GOk tmps g) {o : Oper} {T : TypeId} {x y : Operand} (ho : o.op = .store T x y) {v : SV1} {e : Eff}
    (he : opEval P s g (.store T x y) = some (v, e)) : EffOk P s β w tmps o v e := by
  simp only [opEval] at he
  split at he
  · rename_i k off u hx hy
    split at he
    · rename_i a T' cs new m hb hnew hm
      split at he
      · rename_i hc
        simp only [Bool.and_eq_true] at hc
        have hc1 := Nat.eq_of_beq_eq_true hc.1.1
        have hc2 := Nat.le_of_ble_eq_true hc.1.2
        simp only [Option.some.injEq, Prod.mk.injEq] at he
        obtain ⟨rfl, rfl⟩ := he
        have hp := evS_atom hS hg hx
        simp only [CellOk] at hp
        obtain ⟨arr, hh, hcs⟩ := hS.box _ _ hb
        have hn := SV1.cells_ok hnew (evS_ok hS hg hy)
        have hl1 := hcs.length
        have hl2 := hn.length
        simp at hl1 hl2
        refine ⟨_, _, (arr.toList.take off ++ (evT tmps y).cells.toList ++ arr.toList.drop (off + (evT tmps y).cells.toList.length)).toArray, hb, ?_, ?_⟩
        · simpa using hcs.splice_ok hn off
        · have hst := run_storeCells_at P (β k) off T' (evT tmps y).cells.toList 0 arr w hh (by simp; omega) (hn.oneCell (noAny_ok hc.2))
          have hsz : (evT tmps y).cells.size = m := by omega
          simp only [Nat.add_zero] at hst
          simp [execOp, ho, Instr.storeAt, Instr.sureAddr, hp.1, storeVar, run_sizeP hm, hsz, hst]
      · simp at he
    · simp at he
  · simp at he

theorem op_nilCheck (hS : Sim hE w0 inc n s h β w tmps) {g : List (Nat × Bool)} (hg : GOk tmps g) {o : Oper} {x : Operand} (ho : o.op = .nilCheck x) {v : SV1} {e : Eff}
    (he : opEval P s g (.nilCheck x) = some (v, e)) : EffOk P s β w tmps o v e := by
  simp only [opEval] at he
  split at he
  · rename_i k off hx
    simp only [Option.some.injEq, Prod.mk.injEq] at he
    obtain ⟨rfl, rfl⟩ := he
    have hp := evS_atom hS hg hx
    exact exec_no hp (fun w' hw' => by simp only [CellOk] at hp; simp [execOp, ho, hp.1])
  · rename_i f b k off hx
    simp only [Option.some.injEq, Prod.mk.injEq] at he
    obtain ⟨rfl, rfl⟩ := he
    have hp := evS_atom hS hg hx
    exact exec_no hp (fun w' hw' => by simp only [CellOk] at hp; cases b <;> simp [execOp, ho, hp.1])
  · rename_i a hx
    simp only [Option.some.injEq, Prod.mk.injEq] at he
    obtain ⟨rfl, rfl⟩ := he
    have hp := evS_atom hS hg hx
    exact exec_no hp (fun w' hw' => by simp only [CellOk] at hp; simp [execOp, ho, hp.1])
  · simp at he

theorem op_unOp (hS : Sim hE w0 inc n s h β w tmps) {g : List (Nat × Bool)} (hg : GOk tmps g) {o : Oper} {u : UnOp} {T : TypeId} {x : Operand} (ho : o.op = .unOp u T x) {v : SV1} {e : Eff}
    (he : opEval P s g (.unOp u T x) = some (v, e)) : EffOk P s β w tmps o v e := by
  cases u <;> simp only [opEval] at he <;> try (simp at he; done)
  split at he
  · rename_i b hx
    simp only [Option.some.injEq, Prod.mk.injEq] at he
    obtain ⟨rfl, rfl⟩ := he
    have hp := evS_atom hS hg hx
    simp only [CellOk] at hp
    exact exec_no (u := .bool !b) rfl (fun w' hw' => by simp [execOp, ho, hp, Op.unary])
  · simp at he

theorem op_fieldAddr (hS : Sim hE w0 inc n s h β w tmps) {g : List (Nat × Bool)} (hg : GOk tmps g) {o : Oper} {T : TypeId} {x : Operand} {f : Nat} (ho : o.op = .fieldAddr T x f) {v : SV1} {e : Eff}
    (he : opEval P s g (.fieldAddr T x f) = some (v, e)) : EffOk P s β w tmps o v e := by
  simp only [opEval] at he
  split at he
  · rename_i k off fs hx hu
    split at he
    · rename_i fl hf
      split at he
      · rename_i m hm
        simp only [Option.some.injEq, Prod.mk.injEq] at he
        obtain ⟨rfl, rfl⟩ := he
        have hp := evS_atom hS hg hx
        simp only [CellOk] at hp
        refine exec_no (u := .pointer (some ⟨β k, off + fl.offset, none⟩)) ⟨rfl, hp.2⟩ (fun w' hw' => ?_)
        have hf' : fs[f]? = some fl := by simpa using hf
        simp [execOp, ho, Instr.fieldAt, run_underlying hu, hf', hp.1, Instr.sureAddr, fieldPlace, run_sizeP hm, Addr.add_lit]
      · simp at he
    · simp at he
  · rename_i a fs hx hu
    split at he
    · rename_i fl hf
      split at he
      · rename_i m hm
        simp only [Option.some.injEq, Prod.mk.injEq] at he
        obtain ⟨rfl, rfl⟩ := he
        have hp := evS_atom hS hg hx
        simp only [CellOk] at hp
        refine exec_no (u := .pointer (some (a.add fl.offset))) ⟨rfl, rfl⟩ (fun w' hw' => ?_)
        have hf' : fs[f]? = some fl := by simpa using hf
        simp [execOp, ho, Instr.fieldAt, run_underlying hu, hf', hp.1, Instr.sureAddr, fieldPlace, run_sizeP hm]
      · simp at he
    · simp at he
  · simp at he

theorem loadS_some {T : TypeId} {cs : List Cell} {off : Nat} {v : SV1} (h : loadS P T cs off = some v) : ∃ m d, sizeP P T = some m ∧ P.underlying T = some d := by
  unfold loadS at h
  split at h
  · rename_i m d h1 h2; exact ⟨m, d, h1, h2⟩
  · simp at h

theorem op_field (hS : Sim hE w0 inc n s h β w tmps) {g : List (Nat × Bool)} (hg : GOk tmps g) {o : Oper} {T : TypeId} {x : Operand} {f : Nat} (ho : o.op = .field T x f) {v : SV1} {e : Eff}
    (he : opEval P s g (.field T x f) = some (v, e)) : EffOk P s β w tmps o v e := by
  simp only [opEval] at he
  split at he
  · rename_i cs fs hx hu
    split at he
    · rename_i fl hf
      obtain ⟨v', h1, h2⟩ := map_some he
      simp only [Prod.mk.injEq] at h2
      obtain ⟨rfl, rfl⟩ := h2
      obtain ⟨m, d, hm, hd⟩ := loadS_some h1
      obtain ⟨arr, harr, hc⟩ := evS_ok hS hg hx
      obtain ⟨u, h3, h4⟩ := run_part hm hd hc h1
      have hf' : fs[f]? = some fl := by simpa using hf
      exact exec_no h3 (fun w' hw' => by simp [execOp, ho, Instr.field, run_underlying hu, hf', harr, asAgg, h4 w'])
    · simp at he
  · simp at he

theorem SV1sOk.get {N : Nat} {β : Nat → Nat} {cs : List SV1} {vs : List Value} (h : SV1sOk N β cs vs) {i : Nat} {c : SV1} (hi : cs[i]? = some c) : ∃ v, vs[i]? = some v ∧ SV1Ok N β c v := by
  induction cs generalizing vs i with
  | nil => simp at hi
  | cons x cs ih => cases vs with
    | nil => simp [SV1sOk] at h
    | cons v vs =>
      cases i with
      | zero => simp at hi; subst hi; exact ⟨v, rfl, h.1⟩
      | succ i => simp at hi; simpa using ih h.2 hi

theorem op_extract (hS : Sim hE w0 inc n s h β w tmps) {o : Oper} {x : Operand} {i : Nat} (ho : o.op = .extract x i) {g : List (Nat × Bool)} {v : SV1} {e : Eff}
    (he : opEval P s g (.extract x i) = some (v, e)) : EffOk P s β w tmps o v e := by
  cases x with
  | tmp t =>
    simp only [opEval] at he
    split at he
    · rename_i vs hl
      obtain ⟨v', h1, h2⟩ := map_some he
      simp only [Prod.mk.injEq] at h2
      obtain ⟨rfl, rfl⟩ := h2
      have hs := hS.slots t
      rw [hl] at hs
      obtain ⟨arr, harr, hc⟩ := hs
      obtain ⟨u, h3, h4⟩ := hc.get h1
      have h3' : arr[i]? = some u := by simpa using h3
      have : evT tmps (.tmp t) = .tuple arr := harr
      exact exec_no h4 (fun w' hw' => by simp [execOp, ho, Instr.extract, this, h3'])
    · simp at he
  | _ => simp [opEval] at he

theorem op_convert (hS : Sim hE w0 inc n s h β w tmps) {g : List (Nat × Bool)} (hg : GOk tmps g) {o : Oper} {a b : TypeId} {x : Operand} (ho : o.op = .convert a b x) {v : SV1} {e : Eff}
    (he : opEval P s g (.convert a b x) = some (v, e)) : EffOk P s β w tmps o v e := by
  simp only [opEval] at he
  split at he
  · rename_i k m k' k'' hx h1 h2
    simp only [Option.some.injEq, Prod.mk.injEq] at he
    obtain ⟨rfl, rfl⟩ := he
    have hp := evS_atom hS hg hx
    simp only [CellOk] at hp
    refine exec_no (u := .int k'' (k''.wrap m)) rfl (fun w' hw' => ?_)
    simp [execOp, ho, convert, run_underlying h1, run_underlying h2, hp, Conv.intToInt]
  · simp at he


theorem run_eqGuard_int (op : BinOp) (T : TypeId) (x y : Operand) (k k' : IntKind) (a b : Int) (w : World) : (eqGuard op T x y (.int k a) (.int k' b)).run P w = .ok () w := by
  unfold eqGuard; split <;> simp

theorem run_eqGuard_bool (op : BinOp) (T : TypeId) (x y : Operand) (a b : Bool) (w : World) : (eqGuard op T x y (.bool a) (.bool b)).run P w = .ok () w := by
  unfold eqGuard; split <;> simp

theorem run_equalIn_bool {T : TypeId} (hu : P.underlying T = some .bool) (d : Nat) (a b : Bool) (w : World) : (Op.equalIn (d + 1) T (.bool a) (.bool b)).run P w = .ok (a == b) w := by
  simp only [Op.equalIn, Sem.run_bind, run_underlying hu, Result.andThen_ok, Sem.run_pure]

theorem run_eql_bool {T : TypeId} (hu : P.underlying T = some .bool) (a b : Bool) (w : World) : (binOp .eql T (.bool a) (.bool b)).run P w = .ok (.bool (a == b)) w := by
  have := run_equalIn_bool hu 9999 a b w
  simp only [binOp, Op.equal, Op.maxDepth, Sem.run_bind, this, Result.andThen_ok, Sem.run_pure]

theorem run_neq_bool {T : TypeId} (hu : P.underlying T = some .bool) (a b : Bool) (w : World) : (binOp .neq T (.bool a) (.bool b)).run P w = .ok (.bool (!(a == b))) w := by
  have := run_equalIn_bool hu 9999 a b w
  simp only [binOp, Op.equal, Op.maxDepth, Sem.run_bind, this, Result.andThen_ok, Sem.run_pure]

theorem cmp_ok {op : BinOp} {k : IntKind} {a b : Int} {r : Bool} (T : TypeId) (hr : cmpS op a b = some r) (w : World) : (binOp op T (.int k a) (.int k b)).run P w = .ok (.bool r) w := by
  cases op <;> simp [cmpS] at hr <;> subst hr <;> simp [binOp, Op.intCmp]

theorem op_binOp (hS : Sim hE w0 inc n s h β w tmps) {g : List (Nat × Bool)} (hg : GOk tmps g) {o : Oper} {op : BinOp} {T T' : TypeId} {x y : Operand} (ho : o.op = .binOp op T x y T') {v : SV1} {e : Eff}
    (he : opEval P s g (.binOp op T x y T') = some (v, e)) : EffOk P s β w tmps o v e := by
  simp only [opEval] at he
  split at he
  · rename_i a b ha hb
    obtain ⟨v', h1, h2⟩ := map_some he
    simp only [Prod.mk.injEq] at h2
    obtain ⟨rfl, rfl⟩ := h2
    have hpa := evS_ok hS hg ha
    have hpb := evS_ok hS hg hb
    unfold binS at h1
    split at h1
    · rename_i k i k' j
      simp only [SV1Ok, CellOk] at hpa hpb
      split at h1
      · simp at h1
      · rename_i hk
        have hk : k = k' := by simpa using hk
        subst hk
        split at h1
        · simp only [Option.some.injEq] at h1; subst h1
          exact exec_no rfl (fun w' hw' => by simp [execOp, ho, hpa, hpb, run_eqGuard_int, binOp, Op.intArith])
        · simp only [Option.some.injEq] at h1; subst h1
          exact exec_no rfl (fun w' hw' => by simp [execOp, ho, hpa, hpb, run_eqGuard_int, binOp, Op.intArith])
        · simp only [Option.some.injEq] at h1; subst h1
          exact exec_no rfl (fun w' hw' => by simp [execOp, ho, hpa, hpb, run_eqGuard_int, binOp, Op.intArith])
        · split at h1
          · rename_i kk m
            simp only [Option.some.injEq] at h1; subst h1
            have : evT tmps (.const (.int kk (.ofNat (m + 1)))) = .int kk (.ofNat (m + 1)) := rfl
            rw [this] at hpb
            simp only [Value.int.injEq] at hpb
            obtain ⟨rfl, rfl⟩ := hpb
            have hne : ¬ (Int.ofNat (m + 1) = 0) := by simp; omega
            refine exec_no rfl (fun w' hw' => ?_)
            simp only [execOp, ho, hpa, this, Sem.run_bind, run_eqGuard_int, Result.andThen_ok, binOp, Op.intDiv, if_neg hne]
            simp
          · simp at h1
        · split at h1
          · rename_i kk m
            simp only [Option.some.injEq] at h1; subst h1
            have : evT tmps (.const (.int kk (.ofNat (m + 1)))) = .int kk (.ofNat (m + 1)) := rfl
            rw [this] at hpb
            simp only [Value.int.injEq] at hpb
            obtain ⟨rfl, rfl⟩ := hpb
            have hne : ¬ (Int.ofNat (m + 1) = 0) := by simp; omega
            refine exec_no rfl (fun w' hw' => ?_)
            simp only [execOp, ho, hpa, this, Sem.run_bind, run_eqGuard_int, Result.andThen_ok, binOp, Op.intDiv, if_neg hne]
            simp
          · simp at h1
        · obtain ⟨r, h3, h4⟩ := map_some h1
          subst h4
          exact exec_no rfl (fun w' hw' => by simp [execOp, ho, hpa, hpb, run_eqGuard_int, cmp_ok T h3])
    · rename_i p q
      simp only [SV1Ok, CellOk] at hpa hpb
      split at h1
      · rename_i hu
        split at h1
        · simp only [Option.some.injEq] at h1; subst h1
          exact exec_no rfl (fun w' hw' => by simp [execOp, ho, hpa, hpb, run_eqGuard_bool, run_eql_bool hu])
        · simp only [Option.some.injEq] at h1; subst h1
          exact exec_no rfl (fun w' hw' => by simp [execOp, ho, hpa, hpb, run_eqGuard_bool, run_neq_bool hu])
        · simp at h1
      · simp at h1
    · simp at h1
  · simp at he

theorem op_makeFunc (hS : Sim hE w0 inc n s h β w tmps) {g : List (Nat × Bool)} (hg : GOk tmps g) {o : Oper} {fn : Fn} {first captured : Array Operand} (ho : o.op = .makeFunc fn first captured) {v : SV1} {e : Eff}
    (he : opEval P s g (.makeFunc fn first captured) = some (v, e)) : EffOk P s β w tmps o v e := by
  cases fn <;> simp only [opEval] at he <;> try (simp at he; done)
  split at he
  · rename_i x h1 h2
    have h1' : first = #[x] := by apply Array.ext'; simpa using h1
    have h2' : captured = #[] := by apply Array.ext'; simpa using h2
    subst h1' h2'
    split at he
    · rename_i k off hx
      simp only [Option.some.injEq, Prod.mk.injEq] at he
      obtain ⟨rfl, rfl⟩ := he
      have hp := evS_atom hS hg hx
      simp only [CellOk] at hp
      exact exec_no ⟨rfl, hp.2⟩ (fun w' hw' => by simp [execOp, ho, Instr.makeFunc, hp.1])
    · simp at he
  · rename_i x h1 h2
    have h1' : first = #[] := by apply Array.ext'; simpa using h1
    have h2' : captured = #[x] := by apply Array.ext'; simpa using h2
    subst h1' h2'
    split at he
    · rename_i k off hx
      simp only [Option.some.injEq, Prod.mk.injEq] at he
      obtain ⟨rfl, rfl⟩ := he
      have hp := evS_atom hS hg hx
      simp only [CellOk] at hp
      exact exec_no ⟨rfl, hp.2⟩ (fun w' hw' => by simp [execOp, ho, Instr.makeFunc, hp.1])
    · simp at he
  · simp at he

theorem op_indexAddr (hS : Sim hE w0 inc n s h β w tmps) {g : List (Nat × Bool)} (hg : GOk tmps g) {o : Oper} {T : TypeId} {x y : Operand} (ho : o.op = .indexAddr T x y) {v : SV1} {e : Eff}
    (he : opEval P s g (.indexAddr T x y) = some (v, e)) : EffOk P s β w tmps o v e := by
  unfold opEval at he
  split at he <;> try (simp at he; done)
  all_goals first | (rename_i hh; cases hh; done) | skip
  rename_i T' x' k i heq
  cases heq
  split at he
  · rename_i b off m el hx hu
    split at he
    · rename_i sz hsz
      split at he
      · rename_i hlt
        have hlt : i < m := Nat.le_of_ble_eq_true hlt
        simp only [Option.some.injEq, Prod.mk.injEq] at he
        obtain ⟨rfl, rfl⟩ := he
        have hp := evS_atom hS hg hx
        simp only [CellOk] at hp
        refine exec_no (u := .pointer (some ⟨β b, off + i * sz, none⟩)) ⟨rfl, hp.2⟩ (fun w' hw' => ?_)
        have hv : evT tmps (.const (.int k (.ofNat i))) = .int k (.ofNat i) := rfl
        have hc : (0 : Int) ≤ Int.ofNat i ∧ Int.ofNat i < (m : Int) := ⟨by simp, by simp; omega⟩
        simp only [execOp, ho, Instr.indexAt, hv, asIntOf, Sem.run_bind, Sem.run_pure, Result.andThen_ok, run_underlying hu, hp.1, Instr.sureAddr, Sem.run_ite, if_pos hc, run_sizeP hsz, Addr.add_lit]
        simp
      · simp at he
    · simp at he
  · rename_i b off m cp el hx hu
    split at he
    · rename_i sz hsz
      split at he
      · rename_i hlt
        have hlt : i < m := Nat.le_of_ble_eq_true hlt
        simp only [Option.some.injEq, Prod.mk.injEq] at he
        obtain ⟨rfl, rfl⟩ := he
        have hp := evS_atom hS hg hx
        simp only [CellOk] at hp
        refine exec_no (u := .pointer (some ⟨β b, off + i * sz, none⟩)) ⟨rfl, hp.2⟩ (fun w' hw' => ?_)
        have hv : evT tmps (.const (.int k (.ofNat i))) = .int k (.ofNat i) := rfl
        have hc : (0 : Int) ≤ Int.ofNat i ∧ Int.ofNat i < (m : Int) := ⟨by simp, by simp; omega⟩
        simp only [execOp, ho, Instr.indexAt, hv, asIntOf, Sem.run_bind, Sem.run_pure, Result.andThen_ok, run_underlying hu, hp.1, Sem.run_ite, if_pos hc, run_sizeP hsz, Addr.add_lit]
        simp
      · simp at he
    · simp at he
  · simp at he

theorem op_call (hS : Sim hE w0 inc n s h β w tmps) {g : List (Nat × Bool)} (hg : GOk tmps g) {o : Oper} {c : Call} (ho : o.op = .call c) {v : SV1} {e : Eff}
    (he : opEval P s g (.call c) = some (v, e)) : EffOk P s β w tmps o v e := by
  obtain ⟨callee, args, types⟩ := c
  cases callee with
  | value f => simp [opEval] at he
  | invoke f m => simp [opEval] at he
  | builtin b =>
    cases b <;> simp only [opEval] at he <;> try (simp at he; done)
    case len =>
      split at he
      · rename_i x T h1 h2
        have h1' : args = #[x] := by apply Array.ext'; simpa using h1
        have h2' : types = #[T] := by apply Array.ext'; simpa using h2
        subst h1' h2'
        split at he
        · rename_i b hx hu
          simp only [Option.some.injEq, Prod.mk.injEq] at he
          obtain ⟨rfl, rfl⟩ := he
          have hp := evS_atom hS hg hx
          simp only [CellOk] at hp
          exact exec_no rfl (fun w' hw' => by simp [execOp, ho, resolve, invoke, builtin, Builtin.len_, run_underlying hu, hp, goInt])
        · rename_i u m el hx hu
          simp only [Option.some.injEq, Prod.mk.injEq] at he
          obtain ⟨rfl, rfl⟩ := he
          have hp := evS_atom hS hg hx
          simp only [CellOk] at hp
          obtain ⟨hp, a, cp, hp'⟩ := hp
          exact exec_no rfl (fun w' hw' => by simp [execOp, ho, resolve, invoke, builtin, Builtin.len_, run_underlying hu, hp, hp', goInt])
        · rename_i k off m cp el hx hu
          simp only [Option.some.injEq, Prod.mk.injEq] at he
          obtain ⟨rfl, rfl⟩ := he
          have hp := evS_atom hS hg hx
          simp only [CellOk] at hp
          exact exec_no rfl (fun w' hw' => by simp [execOp, ho, resolve, invoke, builtin, Builtin.len_, run_underlying hu, hp.1, goInt])
        · simp at he
      · simp at he
    case min =>
      split at he
      · rename_i x y h1
        have h1' : args = #[x, y] := by apply Array.ext'; simpa using h1
        subst h1'
        split at he
        · rename_i k a k' b hx hy
          simp only [Option.some.injEq, Prod.mk.injEq] at he
          obtain ⟨rfl, rfl⟩ := he
          have hp := evS_atom hS hg hx
          have hq := evS_atom hS hg hy
          simp only [CellOk] at hp hq
          exact exec_no rfl (fun w' hw' => by simp [execOp, ho, resolve, invoke, builtin, Builtin.min_, Builtin.min2, hp, hq])
        · simp at he
      · simp at he
    case max =>
      split at he
      · rename_i x y h1
        have h1' : args = #[x, y] := by apply Array.ext'; simpa using h1
        subst h1'
        split at he
        · rename_i k a k' b hx hy
          simp only [Option.some.injEq, Prod.mk.injEq] at he
          obtain ⟨rfl, rfl⟩ := he
          have hp := evS_atom hS hg hx
          have hq := evS_atom hS hg hy
          simp only [CellOk] at hp hq
          exact exec_no rfl (fun w' hw' => by simp [execOp, ho, resolve, invoke, builtin, Builtin.max_, Builtin.max2, hp, hq])
        · simp at he
      · simp at he

/-- **What is computed is what the machine does.** -/
theorem opEval_ok (hS : Sim hE w0 inc n s h β w tmps) {g : List (Nat × Bool)} (hg : GOk tmps g) {o : Oper} {v : SV1} {e : Eff} (he : opEval P s g o.op = some (v, e)) : EffOk P s β w tmps o v e := by
  cases ho : o.op <;> rw [ho] at he
  case move x => exact op_move hS hg (.inl ho) he
  case assign x => exact op_move hS hg (.inr ho) he
  case pick => exact op_pick hS hg ho he
  case alloc => exact op_alloc ho he
  case box => exact op_box hS hg ho he
  case build => exact op_build hS hg ho he
  case buildSlice => exact op_buildSlice hS hg ho he
  case load => exact op_load hS hg ho he
  case store => exact op_store hS hg ho he
  case nilCheck => exact op_nilCheck hS hg ho he
  case binOp => exact op_binOp hS hg ho he
  case unOp => exact op_unOp hS hg ho he
  case fieldAddr => exact op_fieldAddr hS hg ho he
  case field => exact op_field hS hg ho he
  case extract => exact op_extract hS ho he
  case makeFunc => exact op_makeFunc hS hg ho he
  case convert => exact op_convert hS hg ho he
  case indexAddr => exact op_indexAddr hS hg ho he
  case call => exact op_call hS hg ho he
  all_goals simp [opEval] at he
end sound
end Go.Proofs.Ytkjahaoobdbffaa

/- The base of this seat's proofs, fifth part: what is known is carried over a slot's writing and an operation's effect. -/
namespace Go.Proofs.Ytkjahaoobdbffaa
open Go Go.RowKit

def putS (s : S) (d : Option Nat) (sv : SV) : S := match d with
  | some d => { s with slots := (d, sv) :: s.slots }
  | none => s

def applyEff (s : S) : Eff → S
  | .no => s
  | .new T cs => { s with boxes := (s.nb, ⟨none, .lit T cs⟩) :: s.boxes, nb := s.nb + 1 }
  | .upd k T cs => match bx k s.boxes with
    | some b => { s with boxes := (k, ⟨b.inc, .lit T cs⟩) :: s.boxes }
    | none => s

theorem lkAux_more (t d : Nat) : ∀ (l : List (Nat × SV)) (newer : List Nat), lkAux t (newer ++ [d]) l = match lkAux t newer l with
    | .gd g b v => if Nat.beq g d then anyS else .gd g b v
    | x => x := by
  intro l
  induction l with
  | nil => intro newer; rfl
  | cons p l ih =>
    intro newer
    obtain ⟨x, sv⟩ := p
    simp only [lkAux]
    split
    · cases sv with
      | one v => rfl
      | tup v => rfl
      | gd g b v =>
        simp only [List.any_append, List.any_cons, List.any_nil, Bool.or_false]
        cases h1 : newer.any (Nat.beq g) <;> cases h2 : Nat.beq g d <;> simp [anyS, h2]
    · exact ih (x :: newer)

theorem lk_put (t d : Nat) (sv : SV) (l : List (Nat × SV)) : lk t ((d, sv) :: l) = if d = t then sv else match lk t l with
    | .gd g b v => if Nat.beq g d then anyS else .gd g b v
    | x => x := by
  unfold lk
  by_cases h : d = t
  · subst h
    simp only [lkAux, Nat.beq_refl, if_true]
    cases sv <;> simp
  · have : Nat.beq d t = false := by
      cases hb : Nat.beq d t
      · rfl
      · exact absurd (Nat.eq_of_beq_eq_true hb) h
    simp only [lkAux, this, if_neg h, Bool.false_eq_true, if_false]
    exact lkAux_more t d l []

theorem nbeq_iff {a b : Nat} : (Nat.beq a b = true) ↔ a = b := ⟨Nat.eq_of_beq_eq_true, fun h => by subst h; exact Nat.beq_refl a⟩

section sim
variable {hE : GH} {w0 : World} {inc : List Nat} {n : Nat} {s : S} {h : GH} {β : Nat → Nat} {w : World} {tmps : Array Value}

theorem getD_set_same {d : Nat} {u : Value} (hd : d < tmps.size) : (tmps.setIfInBounds d u).getD d undef = u := by simp [hd]
theorem getD_set_other {d t : Nat} {u : Value} (hd : d ≠ t) : (tmps.setIfInBounds d u).getD t undef = tmps.getD t undef := by
  simp [Array.getD_eq_getD_getElem?, Array.getElem?_setIfInBounds_ne hd]

theorem SVOk.any {N : Nat} (v : Value) : SVOk N β tmps anyS v := trivial

/-- A slot is written. -/
theorem Sim.put (hS : Sim hE w0 inc n s h β w tmps) {d : Nat} (hd : d < n) {sv : SV} {u : Value} (hv : SVOk s.nb β (tmps.setIfInBounds d u) sv u) :
    Sim hE w0 inc n (putS s (some d) sv) h β w (tmps.setIfInBounds d u) where
  size := by simpa using hS.size
  slots t := by
    show SVOk s.nb β _ (lk t ((d, sv) :: s.slots)) _
    rw [lk_put]
    by_cases hdt : d = t
    · subst hdt
      rw [if_pos rfl, getD_set_same (by rw [hS.size]; exact hd)]
      exact hv
    · rw [if_neg hdt, getD_set_other hdt]
      have hs := hS.slots t
      cases hl : lk t s.slots with
      | one v => rw [hl] at hs; exact hs
      | tup v => rw [hl] at hs; exact hs
      | gd g b v =>
        rw [hl] at hs
        simp only
        split
        · exact trivial
        · rename_i hg
          have hg : d ≠ g := fun e => hg (nbeq_iff.2 e.symm)
          simp only [SVOk] at hs ⊢
          rw [getD_set_other hg]
          exact hs
  box := hS.box
  inj := hS.inj
  keys := hS.keys
  fresh := hS.fresh
  ghost := hS.ghost
  gno := hS.gno
  frame := hS.frame
  gle := hS.gle
  gold := hS.gold
  own := hS.own
  ownB := hS.ownB
  ownI := hS.ownI

/-- A world that differs in nothing that is known of. -/
theorem Sim.of_heap (hS : Sim hE w0 inc n s h β w tmps) {w' : World} (e1 : w'.heap = w.heap) (e2 : w'.os = w.os) (e3 : w'.tape = w.tape) (e4 : w'.output = w.output) : Sim hE w0 inc n s h β w' tmps where
  size := hS.size
  slots := hS.slots
  box k b hb := (hS.box k b hb).of_block (by rw [e1])
  inj := hS.inj
  keys := hS.keys
  fresh := hS.fresh
  ghost b o hb := by rw [e1]; exact hS.ghost b o hb
  gno := hS.gno
  frame := hS.frame.of_heap e1 e2 e3 e4
  gle := hS.gle
  gold := hS.gold
  own k o ho := ownsRow_of_block (hS.own k o ho) fun b _ => by rw [e1]
  ownB := hS.ownB
  ownI := hS.ownI

theorem bx_cons (k l : Nat) (b : Box) (bs : List (Nat × Box)) : bx k ((l, b) :: bs) = if l = k then some b else bx k bs := by
  simp only [bx]
  by_cases h : l = k
  · subst h; simp
  · have : Nat.beq l k = false := by
      cases hb : Nat.beq l k
      · rfl
      · exact absurd (Nat.eq_of_beq_eq_true hb) h
    simp [this, h]

/-- A new block is laid. -/
theorem Sim.new (hS : Sim hE w0 inc n s h β w tmps) {T : TypeId} {cs : List Cell} {arr : Array Value} (hc : CellsOk s.nb β cs arr.toList) :
    Sim hE w0 inc n (applyEff s (.new T cs)) h (fun k => if k = s.nb then w.heap.size else β k) (w.alloc (.cells arr T)) tmps := by
  have hb : ∀ k, k < s.nb → (fun k => if k = s.nb then w.heap.size else β k) k = β k := fun k hk => by simp [Nat.ne_of_lt hk]
  have hold : ∀ b, b < w.heap.size → (w.alloc (.cells arr T)).heap[b]? = w.heap[b]? := fun b hb => Below.heap_alloc w _ b hb
  have hnew : (w.alloc (.cells arr T)).heap[w.heap.size]? = some (.cells arr T) := (MapKept.heap_alloc w _).1
  have hlt : ∀ k b, bx k s.boxes = some b → β k < w.heap.size := fun k b hk => (hS.box k b hk).lt
  refine ⟨hS.size, fun t => (hS.slots t).rename (Nat.le_succ _) hb, ?_, ?_, ?_, ?_, ?_, ?_, ?_, hS.gle, hS.gold, ?_, ?_, hS.ownI⟩
  · intro k b hk
    simp only [applyEff, bx_cons] at hk
    split at hk
    · rename_i e; subst e
      simp only [Option.some.injEq] at hk; subst hk
      simp only [if_true]
      exact ⟨arr, hnew, hc.rename (Nat.le_succ _) hb⟩
    · have hne : k ≠ s.nb := fun e => by rename_i h; exact h e.symm
      simp only [if_neg hne]
      exact ((hS.box k b hk).rename (Nat.le_succ _) hb).of_block (hold _ (hlt k b hk))
  · intro k l b c hk hl hkl
    simp only [applyEff, bx_cons] at hk hl
    by_cases ek : s.nb = k
    · subst ek
      have hne : l ≠ s.nb := fun e => hkl e.symm
      rw [if_neg (fun e => hkl e)] at hl
      simp only [if_true, if_neg hne]
      have := hlt l c hl
      omega
    · rw [if_neg ek] at hk
      have hk' : k ≠ s.nb := fun e => ek e.symm
      by_cases el : s.nb = l
      · subst el
        simp only [if_true, if_neg hk']
        have := hlt k b hk
        omega
      · rw [if_neg el] at hl
        have hl' : l ≠ s.nb := fun e => el e.symm
        simp only [if_neg hk', if_neg hl']
        exact hS.inj k l b c hk hl hkl
  · intro k b hk
    simp only [applyEff, bx_cons] at hk ⊢
    split at hk
    · rename_i e; omega
    · have := hS.keys k b hk; omega
  · intro k b hk
    simp only [applyEff, bx_cons] at hk
    split at hk
    · rename_i e; subst e
      simp only [Option.some.injEq] at hk; subst hk
      simp only [if_true]
      exact hS.frame.size
    · have hne : k ≠ s.nb := fun e => by rename_i h; exact h e.symm
      simp only [if_neg hne]
      exact hS.fresh k b hk
  · intro b o ho
    have := hS.ghost b o ho
    rw [hold b (Array.getElem?_eq_some_iff.1 this).1]; exact this
  · intro k b hk
    simp only [applyEff, bx_cons] at hk
    split at hk
    · rename_i e; subst e
      simp only [if_true]
      cases hh : h w.heap.size with
      | none => rfl
      | some o => have := (Array.getElem?_eq_some_iff.1 (hS.ghost _ o hh)).1; omega
    · have hne : k ≠ s.nb := fun e => by rename_i h; exact h e.symm
      simp only [if_neg hne]
      exact hS.gno k b hk
  · refine hS.frame.trans ⟨rfl, rfl, rfl, by simp, fun b hb _ => hold b hb⟩
  · exact fun k o ho => ownsRow_of_block (hS.own k o ho) fun b hb => hold b (ownsRow_lt (hS.own k o ho) hb)
  · intro k o b ho hb'
    obtain ⟨h1, h2, h3⟩ := hS.ownB k o b ho hb'
    refine ⟨h1, fun j x hj => ?_, h3⟩
    simp only [applyEff, bx_cons] at hj
    split at hj
    · rename_i e; subst e
      simp only [if_true]
      have := ownsRow_lt (hS.own k o ho) hb'
      omega
    · have hne : j ≠ s.nb := fun e => by rename_i h; exact h e.symm
      simp only [if_neg hne]
      exact h2 j x hj

theorem setRow_other {w : World} {g b : Nat} {arr : Array Value} (hne : b ≠ g) : (w.setRow g arr).heap[b]? = w.heap[b]? := by
  simp only [World.setRow, Array.getElem?_modify]
  rw [if_neg (fun e => hne e.symm)]

/-- A known block is written. -/
theorem Sim.upd (hS : Sim hE w0 inc n s h β w tmps) {k : Nat} {T : TypeId} {b : Option Nat} {cs0 cs : List Cell} (hk : bx k s.boxes = some ⟨b, .lit T cs0⟩) {arr : Array Value} (hc : CellsOk s.nb β cs arr.toList) :
    Sim hE w0 inc n (applyEff s (.upd k T cs)) h β (w.setRow (β k) arr) tmps := by
  have hS' : applyEff s (.upd k T cs) = { s with boxes := (k, ⟨b, .lit T cs⟩) :: s.boxes } := by simp [applyEff, hk]
  rw [hS']
  obtain ⟨arr0, hh, hc0⟩ := hS.box _ _ hk
  have hnew : (w.setRow (β k) arr).heap[β k]? = some (.cells arr T (0, 0)) := setRow_heap w (β k) arr0 arr T (0, 0) hh
  have hold : ∀ x, x ≠ β k → (w.setRow (β k) arr).heap[x]? = w.heap[x]? := fun x hx => setRow_other hx
  have hsz : (w.setRow (β k) arr).heap.size = w.heap.size := by simp [World.setRow]
  refine ⟨hS.size, hS.slots, ?_, ?_, ?_, ?_, ?_, ?_, ?_, hS.gle, hS.gold, ?_, ?_, hS.ownI⟩
  · intro l c hl
    simp only [bx_cons] at hl
    split at hl
    · rename_i e; subst e
      simp only [Option.some.injEq] at hl; subst hl
      exact ⟨arr, hnew, hc⟩
    · rename_i e
      exact (hS.box l c hl).of_block (hold _ (hS.inj l k c _ hl hk (fun e' => e e'.symm)))
  · intro l m c d hl hm hlm
    simp only [bx_cons] at hl hm
    split at hl <;> split at hm
    · rename_i e e'; omega
    · rename_i e e'; subst e; exact hS.inj _ _ _ _ hk hm hlm
    · rename_i e e'; subst e'; exact hS.inj _ _ _ _ hl hk hlm
    · exact hS.inj _ _ _ _ hl hm hlm
  · intro l c hl
    simp only [bx_cons] at hl
    split at hl
    · rename_i e; subst e; exact hS.keys _ _ hk
    · exact hS.keys _ _ hl
  · intro l c hl
    simp only [bx_cons] at hl
    split at hl
    · rename_i e; subst e
      simp only [Option.some.injEq] at hl; subst hl
      have := hS.fresh _ _ hk; exact this
    · exact hS.fresh _ _ hl
  · intro x o ho
    have h1 := hS.ghost x o ho
    have hne : x ≠ β k := fun e => by subst e; rw [hS.gno k _ hk] at ho; cases ho
    rw [hold x hne]; exact h1
  · intro l c hl
    simp only [bx_cons] at hl
    split at hl
    · rename_i e; subst e; exact hS.gno _ _ hk
    · exact hS.gno _ _ hl
  · refine ⟨hS.frame.os, hS.frame.tape, hS.frame.output, by rw [hsz]; exact hS.frame.size, fun x hx hn => ?_⟩
    have hne : x ≠ β k := by
      have := hS.fresh _ _ hk
      cases b with
      | none => simp only at this; omega
      | some m =>
        simp only at this
        rintro rfl
        rw [this.1] at hn hx
        rcases this.2 with h1 | h1
        · exact hn h1
        · omega
    rw [hold x hne]; exact hS.frame.block x hx hn
  · exact fun l o ho => ownsRow_of_block (hS.own l o ho) fun x hx => hold x fun e => (hS.ownB l o x ho hx).2.1 k _ hk e.symm
  · intro l o x ho hx
    obtain ⟨h1, h2, h3⟩ := hS.ownB l o x ho hx
    refine ⟨h1, fun j y hj => ?_, h3⟩
    simp only [bx_cons] at hj
    split at hj
    · rename_i e; subst e; exact h2 _ _ hk
    · exact h2 _ _ hj
end sim
end Go.Proofs.Ytkjahaoobdbffaa

/- The base of this seat's proofs, sixth part: the machine's steps, and a runner that takes all steps that can be computed. -/
namespace Go.Proofs.Ytkjahaoobdbffaa
open Go Go.RowKit

structure Ctx where
  P : Program
  f : FuncId
  hE : GH
  w0 : World
  inc : List Nat
  n : Nat
  R : Ending → World → Prop

def fr0 (f : FuncId) (tmps : Array Value) (todo : List Item) : Frame := { fn := f, tmps, todo, defers := [], mode := .run, kind := .normal }
def base (f : FuncId) : Frame := { (default : Frame) with fn := f, kind := .normal }

theorem fr0_at (f : FuncId) (tmps : Array Value) (todo : List Item) : fr0 f tmps todo = (base f).at ⟨tmps, []⟩ todo := rfl

/-- From here the call comes to an end of which R holds. -/
def Reach (C : Ctx) (tmps : Array Value) (todo : List Item) (w : World) : Prop :=
  ∀ cs, ∃ e w' fr', C.R e w' ∧ Comes C.P (lone (fr0 C.f tmps todo) cs w) (lone fr' cs w') e ∧ fr'.fn = C.f ∧ fr'.leaving C.P w' e

section reach
variable {C : Ctx} {tmps tmps' : Array Value} {todo todo' k : List Item} {w w' : World}

theorem Reach.steps (h : ∀ cs, Steps C.P (lone (fr0 C.f tmps todo) cs w) (lone (fr0 C.f tmps' todo') cs w')) (h' : Reach C tmps' todo' w') : Reach C tmps todo w := by
  intro cs
  obtain ⟨e, w'', fr', hR, hc, hf, hl⟩ := h' cs
  exact ⟨e, w'', fr', hR, .of_steps (h cs) hc, hf, hl⟩

theorem Reach.step (h : ∀ cs, step C.P (lone (fr0 C.f tmps todo) cs w) = .next (lone (fr0 C.f tmps' todo') cs w')) (h' : Reach C tmps' todo' w') : Reach C tmps todo w :=
  h'.steps fun cs => .one (h cs)

theorem Reach.value {ops : Array Oper} {i : Nat} {rest : List Nat} {o : Oper} {v : Value} (ho : ops[i]? = some o) (hw : Region.wanted o (yielded ops tmps) = true)
    (hr : (execOp (evT tmps) o).run C.P w = .ok (.value v) w') (h' : Reach C ((⟨tmps, []⟩ : Act).put o.dst v).tmps (.inRegion ops rest :: k) w') : Reach C tmps (.inRegion ops (i :: rest) :: k) w := by
  refine h'.step fun cs => ?_
  have hg := stepG_op (P := C.P) (b := base C.f) (a := ⟨tmps, []⟩) (k := k) (cs := cs) (w := w) (rest := rest) ho hw
  have hfin : ((base C.f).at ⟨tmps, []⟩ (.inRegion ops (i :: rest) :: k)).finish v = fr0 C.f ((⟨tmps, []⟩ : Act).put o.dst v).tmps (.inRegion ops rest :: k) := by
    rw [Frame.finish_at, ho, fr0_at]
    cases hd : o.dst <;> simp [Act.put, hd]
  rw [fr0_at]
  refine step_lone_go ?_
  have hr' : (execOp (⟨tmps, []⟩ : Act).eval o).run C.P w = .ok (.value v) w' := hr
  rw [hg, ← hfin]; simp [stepG.apply, hr']

theorem Reach.skip {ops : Array Oper} {i : Nat} {rest : List Nat} {o : Oper} (ho : ops[i]? = some o) (hw : Region.wanted o (yielded ops tmps) = true)
    (hr : (execOp (evT tmps) o).run C.P w = .ok .skip w') (h' : Reach C ((⟨tmps, []⟩ : Act).put o.dst undef).tmps (.inRegion ops rest :: k) w') : Reach C tmps (.inRegion ops (i :: rest) :: k) w := by
  refine h'.step fun cs => ?_
  have hg := stepG_op (P := C.P) (b := base C.f) (a := ⟨tmps, []⟩) (k := k) (cs := cs) (w := w) (rest := rest) ho hw
  have hfin : ((base C.f).at ⟨tmps, []⟩ (.inRegion ops (i :: rest) :: k)).finish undef = fr0 C.f ((⟨tmps, []⟩ : Act).put o.dst undef).tmps (.inRegion ops rest :: k) := by
    rw [Frame.finish_at, ho, fr0_at]
    cases hd : o.dst <;> simp [Act.put, hd]
  rw [fr0_at]
  refine step_lone_go ?_
  have hr' : (execOp (⟨tmps, []⟩ : Act).eval o).run C.P w = .ok .skip w' := hr
  rw [hg, ← hfin]; simp [stepG.apply, hr']

theorem Reach.unwanted {ops : Array Oper} {i : Nat} {rest : List Nat} {o : Oper} (ho : ops[i]? = some o) (hw : Region.wanted o (yielded ops tmps) = false)
    (h' : Reach C ((⟨tmps, []⟩ : Act).put o.dst undef).tmps (.inRegion ops rest :: k) w) : Reach C tmps (.inRegion ops (i :: rest) :: k) w := by
  refine h'.step fun cs => ?_
  have hs := step_op_skip (P := C.P) (b := base C.f) (a := ⟨tmps, []⟩) (k := k) (cs := cs) (w := w) (ops := ops) (i := i) (rest := rest) (by simp [ho]; simpa using hw)
  rw [fr0_at, hs, fr0_at]
  simp only [ho, Option.bind_some]
  cases hd : o.dst <;> simp [Act.put]

theorem Reach.call {ops : Array Oper} {i : Nat} {rest : List Nat} {o : Oper} {f : FuncId} {args : Array Value} (ho : ops[i]? = some o) (hw : Region.wanted o (yielded ops tmps) = true)
    (hr : (execOp (evT tmps) o).run C.P w = .ok (.enter f args) w')
    (hc : Calls C.P f args w' fun e w'' => ∃ v, e = .returned v ∧ Reach C ((⟨tmps, []⟩ : Act).put o.dst v).tmps (.inRegion ops rest :: k) w'') : Reach C tmps (.inRegion ops (i :: rest) :: k) w := by
  intro cs
  have hr' : (execOp (⟨tmps, []⟩ : Act).eval o).run C.P w = .ok (.enter f args) w' := hr
  have hg := stepG_op (P := C.P) (b := base C.f) (a := ⟨tmps, []⟩) (k := k) (cs := cs) (w := w) (rest := rest) ho hw
  have henter : Go.step C.P (lone ((base C.f).at ⟨tmps, []⟩ (.inRegion ops (i :: rest) :: k)) cs w) =
      .next (lone (Frame.enter C.P f args .normal) ((base C.f).at ⟨tmps, []⟩ (.inRegion ops (i :: rest) :: k) :: cs) w') :=
    step_lone_go (by rw [hg]; simp [stepG.apply, hr', Frame.at])
  obtain ⟨e, w'', fr, ⟨v, rfl, hR⟩, hsteps, _, hleave⟩ := hc ((base C.f).at ⟨tmps, []⟩ (.inRegion ops (i :: rest) :: k) :: cs)
  have hfin : ((base C.f).at ⟨tmps, []⟩ (.inRegion ops (i :: rest) :: k)).finish v = fr0 C.f ((⟨tmps, []⟩ : Act).put o.dst v).tmps (.inRegion ops rest :: k) := by
    rw [Frame.finish_at, ho, fr0_at]
    cases hd : o.dst <;> simp [Act.put, hd]
  obtain ⟨e', w3, fr', h1, h2, h3, h4⟩ := hR cs
  refine ⟨e', w3, fr', h1, .of_steps (.head henter (Steps.trans hsteps (.one ?_))) h2, h3, h4⟩
  rw [← hfin]; exact step_leave_returned hleave

theorem Reach.ret {fn : Func} {v : Value} (hf : C.P.funcs[C.f]? = some fn) (hv : (results fn tmps).run C.P w = .ok v w) (hR : C.R (.returned v) w) : Reach C tmps (.code .ret :: k) w := by
  intro cs
  refine ⟨.returned v, w, { fr0 C.f tmps (.code .ret :: k) with mode := .returning }, hR, .one ?_, rfl, rfl, rfl, rfl, fn, hf, hv⟩
  rw [fr0_at]; exact step_ret

theorem Reach.fall {fn : Func} {v : Value} (hf : C.P.funcs[C.f]? = some fn) (hv : (results fn tmps).run C.P w = .ok v w) (hR : C.R (.returned v) w) : Reach C tmps [] w := by
  intro cs
  refine ⟨.returned v, w, { fr0 C.f tmps [] with mode := .returning }, hR, .one ?_, rfl, rfl, rfl, rfl, fn, hf, hv⟩
  rw [fr0_at]; exact step_end

/-- Behind a piece of code of which a wp holds. -/
theorem Reach.wp {c : Code} (hwp : c.wp C.P (fun e a w => match e with | .normal => a.defers = [] ∧ Reach C a.tmps k w | _ => False) ⟨tmps, []⟩ w) : Reach C tmps (.code c :: k) w := by
  intro cs
  obtain ⟨e, a', w', hq, harr⟩ := hwp (base C.f) k cs
  cases e <;> simp only at hq
  obtain ⟨hd, hr⟩ := hq
  obtain ⟨e, w'', fr', h1, h2, h3, h4⟩ := hr cs
  refine ⟨e, w'', fr', h1, .of_steps ?_ h2, h3, h4⟩
  have : (base C.f).at a' k = fr0 C.f a'.tmps k := by rw [fr0_at]; simp [Frame.at, hd]
  rw [fr0_at, ← this]; exact harr
end reach

structure Cfg where
  todo : List Item
  s : S

/-- **THE GOAL**: whatever memory and slots are, if all that is known holds of them, the call comes to an end of which R holds. -/
def G (C : Ctx) (h : GH) (c : Cfg) : Prop := ∀ β w tmps, Sim C.hE C.w0 C.inc C.n c.s h β w tmps → Reach C tmps c.todo w

/-- A tuple that is moved. -/
def tupOf (s : S) : Op → Option (List SV1)
  | .move (.tmp t) => match lk t s.slots with
    | .tup vs => some vs
    | _ => none
  | _ => none

/-- One operation on what is known. -/
def opStep (P : Program) (n : Nat) (s : S) (ops : Array Oper) (o : Oper) : Option S :=
  match o.guard with
  | none => match opEval P s [] o.op with
    | some (v, e) => match o.dst with
      | some d => if Nat.blt d n then some (putS (applyEff s e) (some d) (.one v)) else none
      | none => some (applyEff s e)
    | none => match tupOf s o.op, o.dst with
      | some vs, some d => if Nat.blt d n then some (putS s (some d) (.tup vs)) else none
      | _, _ => none
  | some (j, want) => match (ops[j]?).bind (·.dst), o.dst with
    | some tg, some d => match opEval P s (chain s 4 tg want) o.op with
      | some (v, .no) => if Nat.blt d n && Nat.blt tg n && !(Nat.beq tg d) then some (putS s (some d) (.gd tg want v)) else none
      | _ => none
    | _, _ => none

def stepC (P : Program) (n : Nat) (c : Cfg) : Option Cfg :=
  match c.todo with
  | .code (.seq a b) :: k => some ⟨.code a :: .code b :: k, c.s⟩
  | .code .skip :: k => some ⟨k, c.s⟩
  | .code (.label _) :: k => some ⟨k, c.s⟩
  | .inBlock _ :: k => some ⟨k, c.s⟩
  | .inScope _ :: k => some ⟨k, c.s⟩
  | .code (.block id body) :: k => some ⟨.code body :: .inBlock id :: k, c.s⟩
  | .code (.scope body) :: k => some ⟨.code body :: .inScope body :: k, c.s⟩
  | .code (.exit id) :: k => match exitTo id k with
    | some k' => some ⟨k', c.s⟩
    | none => none
  | .code (.region _ ops false) :: k => some ⟨.inRegion ops (List.range ops.size) :: k, c.s⟩
  | .inRegion _ [] :: k => some ⟨k, c.s⟩
  | .inRegion ops (i :: rest) :: k => match ops[i]? with
    | some o => match opStep P n c.s ops o with
      | some s' => some ⟨.inRegion ops rest :: k, s'⟩
      | none => none
    | none => none
  | _ => none

def run (P : Program) (n : Nat) : Nat → Cfg → Cfg
  | 0, c => c
  | m + 1, c => match stepC P n c with
    | some c' => run P n m c'
    | none => c

theorem put_tmps (tmps : Array Value) (d : Option Nat) (v : Value) : ((⟨tmps, []⟩ : Act).put d v).tmps = match d with | some d => tmps.setIfInBounds d v | none => tmps := by
  cases d <;> rfl

theorem wanted_of {tmps : Array Value} {ops : Array Oper} {o : Oper} {j tg : Nat} {want : Bool} (hg : o.guard = some (j, want)) (hj : (ops[j]?).bind (·.dst) = some tg) (htg : tg < tmps.size) :
    Region.wanted o (yielded ops tmps) = true ↔ tmps.getD tg undef = .bool want := by
  simp only [Region.wanted, hg, yielded, hj, Option.bind_some, Array.getElem?_eq_getElem htg]
  have : tmps.getD tg undef = tmps[tg] := by simp [htg]
  rw [this]
  cases tmps[tg] <;> simp

theorem tupOf_ok {P : Program} {hE : GH} {w0 : World} {inc : List Nat} {n : Nat} {s : S} {h : GH} {β : Nat → Nat} {w : World} {tmps : Array Value} (hS : Sim hE w0 inc n s h β w tmps) {o : Oper} {vs : List SV1} (ht : tupOf s o.op = some vs) :
    ∃ arr : Array Value, SV1sOk s.nb β vs arr.toList ∧ ∀ w' : World, (execOp (evT tmps) o).run P w' = .ok (.value (.tuple arr)) w' := by
  unfold tupOf at ht
  split at ht
  · rename_i t hop
    split at ht
    · rename_i vs' hl
      simp only [Option.some.injEq] at ht; subst ht
      have hs := hS.slots t
      rw [hl] at hs
      obtain ⟨arr, harr, hc⟩ := hs
      have : evT tmps (.tmp t) = .tuple arr := harr
      exact ⟨arr, hc, fun w' => by simp [execOp, hop, this]⟩
    · simp at ht
  · simp at ht

theorem Reach.done {C : Ctx} {ops : Array Oper} {i : Nat} {rest : List Nat} {k : List Item} {w : World} {tmps : Array Value} {o : Oper} {s s' : S} {h : GH} {β : Nat → Nat} (ho : ops[i]? = some o)
    (hS : Sim C.hE C.w0 C.inc C.n s h β w tmps) (hs : opStep C.P C.n s ops o = some s') (h' : G C h ⟨.inRegion ops rest :: k, s'⟩) : Reach C tmps (.inRegion ops (i :: rest) :: k) w := by
  unfold opStep at hs
  split at hs
  · rename_i hg
    have hw : Region.wanted o (yielded ops tmps) = true := by simp [Region.wanted, hg]
    split at hs
    · rename_i v e he
      have hok := opEval_ok hS GOk.nil he
      cases e with
      | no =>
        obtain ⟨u, h1, h2⟩ := hok
        refine Reach.value ho hw (h2 w fun _ _ _ => rfl) (h' β w _ ?_)
        rw [put_tmps]
        split at hs
        · rename_i d hd
          split at hs
          · rename_i hlt
            simp only [Option.some.injEq] at hs; subst hs
            rw [hd]
            exact hS.put (Nat.le_of_ble_eq_true hlt) h1
          · simp at hs
        · rename_i hd
          simp only [Option.some.injEq] at hs; subst hs
          rw [hd]
          exact hS
      | new T cs =>
        obtain ⟨arr, u, h1, h2, h3⟩ := hok
        have hS' := hS.new (T := T) h1
        refine Reach.value ho hw h3 (h' (fun k => if k = s.nb then w.heap.size else β k) (w.alloc (.cells arr T)) _ ?_)
        rw [put_tmps]
        split at hs
        · rename_i d hd
          split at hs
          · rename_i hlt
            simp only [Option.some.injEq] at hs; subst hs
            rw [hd]
            exact hS'.put (Nat.le_of_ble_eq_true hlt) (h2 _ (by simp))
          · simp at hs
        · rename_i hd
          simp only [Option.some.injEq] at hs; subst hs
          rw [hd]
          exact hS'
      | upd x T cs =>
        obtain ⟨b, cs0, arr, h1, h2, h3⟩ := hok
        have hS' := hS.upd h1 h2
        refine Reach.skip ho hw h3 (h' β (w.setRow (β x) arr) _ ?_)
        rw [put_tmps]
        split at hs
        · rename_i d hd
          split at hs
          · rename_i hlt
            simp only [Option.some.injEq] at hs; subst hs
            rw [hd]
            have he' : v = .atom .any := by
              have : o.op = o.op := rfl
              revert he
              cases hop : o.op <;> intro he <;> simp only [opEval] at he <;> (repeat' split at he) <;> simp_all
            subst he'
            exact hS'.put (Nat.le_of_ble_eq_true hlt) trivial
          · simp at hs
        · rename_i hd
          simp only [Option.some.injEq] at hs; subst hs
          rw [hd]
          exact hS'
    · split at hs
      · rename_i vs d ht hd
        split at hs
        · rename_i hlt
          simp only [Option.some.injEq] at hs; subst hs
          obtain ⟨arr, harr, hr⟩ := tupOf_ok (P := C.P) hS ht
          refine Reach.value ho hw (hr w) (h' β w _ ?_)
          rw [put_tmps, hd]
          exact hS.put (Nat.le_of_ble_eq_true hlt) ⟨arr, rfl, harr⟩
        · simp at hs
      · simp at hs
  · rename_i j want hg
    split at hs
    · rename_i tg d hj hd
      split at hs
      · rename_i v he
        split at hs
        · rename_i hc
          simp only [Bool.and_eq_true, Bool.not_eq_true'] at hc
          have hd1 : d < C.n := Nat.le_of_ble_eq_true hc.1.1
          have htg : tg < C.n := Nat.le_of_ble_eq_true hc.1.2
          have hne : d ≠ tg := fun e => by have := hc.2; rw [e, Nat.beq_refl] at this; cases this
          simp only [Option.some.injEq] at hs; subst hs
          have hwi := wanted_of (tmps := tmps) hg hj (by rw [hS.size]; exact htg)
          by_cases hwt : Region.wanted o (yielded ops tmps) = true
          · have htrue := hwi.1 hwt
            obtain ⟨u, h1, h2⟩ := opEval_ok hS (chain_ok hS 4 tg want htrue) he
            refine Reach.value ho hwt (h2 w fun _ _ _ => rfl) (h' β w _ ?_)
            rw [put_tmps, hd]
            refine hS.put hd1 (.inl ⟨?_, h1⟩)
            rw [getD_set_other hne]; exact htrue
          · have hfalse : tmps.getD tg undef ≠ .bool want := fun e => hwt (hwi.2 e)
            refine Reach.unwanted ho (by simpa using hwt) (h' β w _ ?_)
            rw [put_tmps, hd]
            refine hS.put hd1 (.inr ⟨?_, rfl⟩)
            rw [getD_set_other hne]; exact hfalse
        · simp at hs
      · simp at hs
    · simp at hs

theorem G.of_stepC {C : Ctx} {h : GH} {c c' : Cfg} (hs : stepC C.P C.n c = some c') (h' : G C h c') : G C h c := by
  intro β w tmps hS
  obtain ⟨todo, s⟩ := c
  unfold stepC at hs
  simp only at hs hS ⊢
  split at hs
  · simp only [Option.some.injEq] at hs; subst hs
    exact (h' β w tmps hS).step fun cs => by rw [fr0_at, fr0_at]; exact step_seq
  · simp only [Option.some.injEq] at hs; subst hs
    exact (h' β w tmps hS).step fun cs => by rw [fr0_at, fr0_at]; exact step_skip
  · simp only [Option.some.injEq] at hs; subst hs
    exact (h' β w tmps hS).step fun cs => by rw [fr0_at, fr0_at]; exact step_label
  · simp only [Option.some.injEq] at hs; subst hs
    exact (h' β w tmps hS).step fun cs => by rw [fr0_at, fr0_at]; exact step_inBlock
  · simp only [Option.some.injEq] at hs; subst hs
    exact (h' β w tmps hS).step fun cs => by rw [fr0_at, fr0_at]; exact step_lone_go (by simp [stepG, stepG.exec, Frame.at])
  · simp only [Option.some.injEq] at hs; subst hs
    exact (h' β w tmps hS).step fun cs => by rw [fr0_at, fr0_at]; exact step_block
  · simp only [Option.some.injEq] at hs; subst hs
    exact (h' β w tmps hS).step fun cs => by rw [fr0_at, fr0_at]; exact step_lone_go (by simp [stepG, stepG.exec, Frame.at])
  · split at hs
    · rename_i k' hk
      simp only [Option.some.injEq] at hs; subst hs
      exact (h' β w tmps hS).step fun cs => by rw [fr0_at, fr0_at]; exact step_exit hk
    · simp at hs
  · simp only [Option.some.injEq] at hs; subst hs
    exact (h' β w tmps hS).step fun cs => by rw [fr0_at, fr0_at]; exact step_region
  · simp only [Option.some.injEq] at hs; subst hs
    exact (h' β w tmps hS).step fun cs => by rw [fr0_at, fr0_at]; exact step_region_end
  · split at hs
    · rename_i o ho
      split at hs
      · rename_i s' hs'
        simp only [Option.some.injEq] at hs; subst hs
        exact Reach.done ho hS hs' h'
      · simp at hs
    · simp at hs
  · simp at hs

/-- **The runner may be taken.** -/
theorem G.run {C : Ctx} {h : GH} : ∀ (m : Nat) {c : Cfg}, G C h (run C.P C.n m c) → G C h c
  | 0, _, h' => h'
  | m + 1, c, h' => by
    unfold Ytkjahaoobdbffaa.run at h'
    cases hs : stepC C.P C.n c with
    | none => rw [hs] at h'; exact h'
    | some c' => rw [hs] at h'; exact G.of_stepC hs (G.run m h')
end Go.Proofs.Ytkjahaoobdbffaa
